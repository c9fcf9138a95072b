/- RuleH -/
import Derived.Test.YtmnajpkmglmipaaGreatMRuleNeeds07
import Derived.Test.YtmnajpkmglmipaaGreatMRuleNeeds08
import Derived.Laws.EntriesVeiled
/- Contract of rule's 'clamped'. -/
namespace Go.Proofs.YtmnajpkmglmipaaGreat
open Go.RowKit Go.Shelf Go.Maps
attribute [local go_sem] Oper.semAt_some

/-- An act's value by its parts. -/
structure ActV where
  t : Int
  n : Int
  k : Int
  sure : Bool
  lA : Option Addr
  ln : Nat
  lc : Nat
  gA : Option Addr
  gn : Nat
  gc : Nat
  sA : Option Addr
  sn : Nat
  sc : Nat
  mq : Int
  oA : Option Addr
  on : Nat
  oc : Nat
  r1 : Int
  r2 : Int
  r3 : Int
  tu : Int
  gen : Int
  hA : Option Addr
  hn : Nat
  hc : Nat
/-- What is taken and made behind one more line. -/
def clampStep (ps : List PoolD) (st : (KindD → Option Int) × List LineD) (p : KindD × LineD) : (KindD → Option Int) × List LineD :=
  if cutD p.2.2 (wr64 (freeD ps p.1.1 p.1.2 - (st.1 p.1).getD 0)) = 0 then st else
    (takeD st.1 p.1 (amtOf (cutD p.2.2 (wr64 (freeD ps p.1.1 p.1.2 - (st.1 p.1).getD 0)))), st.2 ++ [(p.1.1, cutD p.2.2 (wr64 (freeD ps p.1.1 p.1.2 - (st.1 p.1).getD 0)))])
def clampSt (ps : List PoolD) (l : List (KindD × LineD)) : (KindD → Option Int) × List LineD := l.foldl (clampStep ps) (fun _ => none, [])
theorem clampSt_snoc (ps : List PoolD) (l : List (KindD × LineD)) (p : KindD × LineD) : clampSt ps (l ++ [p]) = clampStep ps (clampSt ps l) p := by simp [clampSt, List.foldl_append]
/-- The rounds that have come, with their lines. -/
def metL (xs : List LineD) (pre : List NeedT) : List (KindD × LineD) := (pre.map (fun x => x.1.1)).zip xs
theorem metL_snoc (xs : List LineD) (pre : List NeedT) (x : NeedT) (h : pre.length < xs.length) : metL xs (pre ++ [x]) = metL xs pre ++ [(x.1.1, xs[pre.length])] := by
  unfold metL
  induction pre generalizing xs with
  | nil => cases xs with
    | nil => simp at h
    | cons y ys => rfl
  | cons p pre ih => cases xs with
    | nil => simp at h
    | cons y ys =>
      simp only [List.cons_append, List.map_cons, List.zip_cons_cons, List.length_cons, List.getElem_cons_succ]
      rw [ih ys (by simpa using h)]
/-- The lines, each cut to what is free when its turn comes. -/
def clampMade (ps : List PoolD) (xs : List LineD) : List LineD := (clampSt ps (((needL xs).map (·.1)).zip xs)).2
/-- Is a setting in time? -/
def timely (vs : List PricedD) (x : SetD) : Bool := decide (versionD vs x.1 < 1099511627776) && (decide (x.2.1 = -1) || decide (x.2.1 = versionD vs x.1))
def clampSets (vs : List PricedD) (sets : List SetD) : List SetD := (sets.filter (timely vs)).map (renewD vs)
theorem metL_all (xs : List LineD) (hx : ∀ x ∈ xs, WfL x) : metL xs (needTs xs hx) = ((needL xs).map (·.1)).zip xs := by
  unfold metL
  rw [← needTs_val xs hx, List.map_map]
  rfl
/-- Between two rounds over the needs of the lines that are cut. -/
def ClampI (w W0 : World) (ps : List PoolD) (xs : List LineD) (pre : List NeedT) (W : World) : Prop :=
  Fr (fun i => i = w.heap.size + 1 + 1 ∨ i = w.heap.size + 1 + 1 + 1 + 1 + 1 + 1 + 1 ∨ i = w.heap.size + 1 + 1 + 1 + 1 + 1 + 1 + 1 + 1 ∨ W0.heap.size ≤ i) W0 W ∧ kindKey.Mp 2 W (w.heap.size + 1 + 1) (4 * pre.length) (clampSt ps (metL xs pre)).1 ∧ Blk W (w.heap.size + 1 + 1 + 1 + 1 + 1 + 1 + 1 + 1) 3 #[.int .i64 pre.length] ∧
    ∃ vA vn vc, Blk W (w.heap.size + 1 + 1 + 1 + 1 + 1 + 1 + 1) 55 #[.slice vA vn vc] ∧ W.ownsRow W0.heap.size 57 2 (.slice vA vn vc) (clampSt ps (metL xs pre)).2.length (fLine.all (clampSt ps (metL xs pre)).2) ∧ (clampSt ps (metL xs pre)).2.length ≤ pre.length
theorem own_rowkept {w w' : World} {base size n : Nat} {e : TypeId} {v : Value} {xs : List Value} {row : Option Nat} (h : w.ownsRow base e size v n xs) (hg : w.grownBy w' row) (hr : ∀ r, row = some r → ∃ o : Obj, w.heap[r]? = some o ∧ o.isCells = false) : w'.ownsRow base e size v n xs := by
  refine ⟨h.1, ?_⟩
  rcases h.2 with h | ⟨g, cap, cur, h1, h2, h3, h4⟩
  · exact .inl h
  · refine .inr ⟨g, cap, cur, h1, h2, (hg.block g (Array.getElem?_eq_some_iff.1 h3).1 (fun e => ?_)).trans h3, h4⟩
    obtain ⟨o, ho, hc⟩ := hr g e.symm
    rw [h3] at ho
    cases ho
    cases hc
theorem clampI_own (w W0 : World) (ps : List PoolD) (xs : List LineD) (hz : W0.heap.size = w.heap.size + 1 + 1 + 1 + 1 + 1 + 1 + 1 + 1 + 1 + 1) : OwnFrom W0.heap.size (ClampI w W0 ps xs) := by
  rintro s W W' row ⟨h1, h2, h3, vA, vn, vc, h4, h5, h6⟩ hg hr
  have F : Fr (fun k => some k = row) W W' := Fr.of_grown hg
  have hn : ∀ k, k < W0.heap.size → ¬ some k = row := fun k hk e => by have := (hr _ e.symm).1; omega
  exact ⟨h1.thru F (fun i hi e => .inr (.inr (.inr (hr _ e.symm).1))), h2.kept F (hn _ (by omega)), h3.kept F (hn _ (by omega)), vA, vn, vc, h4.kept F (hn _ (by omega)), own_rowkept h5 hg (fun r e => (hr r e).2), h6⟩
theorem clamp_keep {w W0 W W' : World} {e : TypeId} {v : Value} {n : Nat} {l : List Value} (z0 : W0.heap.size = w.heap.size + 1 + 1 + 1 + 1 + 1 + 1 + 1 + 1 + 1 + 1) (hz : W0.heap.size ≤ W.heap.size) (hF : Fr (fun i => i = w.heap.size + 1 + 1 ∨ i = w.heap.size + 1 + 1 + 1 + 1 + 1 + 1 + 1 ∨ i = w.heap.size + 1 + 1 + 1 + 1 + 1 + 1 + 1 + 1 ∨ some i = v.ownBlock) W W') (own : W.ownsRow W0.heap.size e 2 v n l) :
    KeepsFrom W0.heap.size W W' ∧ Below w.heap.size W W' := by
  have hb := own_base own
  refine ⟨⟨hF.size, fun k o hB hk ho => (hF.block k (Array.getElem?_eq_some_iff.1 hk).1 (fun e => ?_)).trans hk⟩, ⟨hF.os, hF.tape, hF.output, hF.size, fun k hk => hF.block k (by omega) (fun e => ?_)⟩⟩
  · rcases e with e | e | e | e
    · omega
    · omega
    · omega
    · rcases own.2 with ⟨rfl, _⟩ | ⟨g', cap, cur, rfl, _, hg', _⟩
      · simp [Value.ownBlock] at e
      · simp [Value.ownBlock] at e
        subst e
        rw [hg'] at hk
        cases hk
        cases ho
  · rcases e with e | e | e | e
    · omega
    · omega
    · omega
    · have := hb k e; omega
theorem Sl.put {α : Type} {f : Flat α} {w : World} {A : Option Addr} {c : Nat} {xs : List α} {D : Nat} {l : Option (List Deferred)} (h : Sl f w A c xs) (hD : w.heap[D]? = some (.deferred l)) (o : Obj) : Sl f (w.putObj D o) A c xs := by
  by_cases hn : xs = []
  · exact ⟨h.le, h.top, fun e => absurd hn e, h.none⟩
  · refine h.kept (fun b ⟨a, ha, e⟩ => (Fr.put w D o).block b ?_ ?_)
    · subst e; exact h.lt hn a ha
    · rintro rfl
      obtain ⟨g, o', e', hc⟩ := h.cells hn
      rw [ha] at e'
      obtain rfl := Option.some.inj e'
      have h0 : 0 < xs.length := List.length_pos_iff.2 hn
      have := hc 0 h0 0 f.pos
      have h2 : 0 < (f.enc xs[0]).length := by rw [f.len]; exact f.pos
      rw [List.getElem?_eq_getElem h2] at this
      simp at e
      subst e
      simp [World.cell?, hD] at this
theorem blk_at (X : World) (T : TypeId) (g : Nat) (cs : Array Value) (h : X.heap.size = g) : Blk (X.alloc (.cells cs T)) g T cs := by subst h; exact Blk.new X T cs
set_option maxRecDepth 100000 in
set_option maxHeartbeats 4000000 in
theorem clamped_c (s : StV) (a : ActV) (ps : List PoolD) (vs : List PricedD) (xs : List LineD) (sets : List SetD) (hn : s.np = ps.length) (hv : s.nr = vs.length) (hl : a.ln = xs.length) (hse : a.sn = sets.length) (hx : ∀ x ∈ xs, WfL x)
    (hb : xs.length * 16 ≤ 140737488351232) (hb2 : sets.length * 24 ≤ 140737488351232) (w : World) (h : kPool.Row w s.P s.cp ps) (h' : Sl fPriced w s.R s.cr vs) (hL : Sl fLine w a.lA a.lc xs) (hS : Sl fSet w a.sA a.sc sets) :
    Calls Tryz.prog 193 #[.agg #[.int .u64 s.q, .slice s.P s.np s.cp, .slice s.R s.nr s.cr, .slice s.L s.nl s.cl, .slice s.G s.ng s.cg, .slice s.O s.no s.co], .agg #[.int .i64 a.t, .int .u64 a.n, .int .i64 a.k, .bool a.sure, .slice a.lA a.ln a.lc, .slice a.gA a.gn a.gc, .slice a.sA a.sn a.sc, .int .i64 a.mq, .slice a.oA a.on a.oc, .int .i64 a.r1, .int .i64 a.r2, .int .i64 a.r3, .int .i64 a.tu, .int .u64 a.gen, .slice a.hA a.hn a.hc]] w fun e w' => ∃ A1 c1 A2 c2, e = .returned (.tuple #[.slice A1 (clampMade ps xs).length c1, .slice A2 (clampSets vs sets).length c2]) ∧ Om fLine 57 w.heap.size w' A1 c1 (clampMade ps xs) ∧ Om fSet 108 w.heap.size w' A2 c2 (clampSets vs sets) ∧ Fr no w w' := by
  refine (callsIn_wide (n := 7)).1 ?_
  refine callsIn_of_wp_marks Tryz.func193 rfl trivial ?_ rfl
  simp only [Tryz.ntmps193, List.size_toArray, List.length_cons, List.length_nil, Nat.reduceAdd, Nat.reduceSub, Array.replicate_succ, Array.replicate_zero, List.push_toArray, List.append_toArray, List.nil_append, List.cons_append]
  have HNP := hide hn
  have HNV := hide hv
  have HLN := hide hl
  have HSN := hide hse
  have HX := hide hx
  have HQ : Hid (∀ W, Fr no w W → kPool.Row W s.P s.cp ps ∧ Sl fPriced W s.R s.cr vs ∧ Sl fLine W a.lA a.lc xs ∧ Sl fSet W a.sA a.sc sets) := hide (fun W F => ⟨h.keep F, h'.below F.below, hL.below F.below, hS.below F.below⟩)
  clear hn hv hl hse h h' hL hS
  have hmm := @run_makeMap Tryz.prog
  have hf23 : Fence.wide.fn 51 := trivial
  have hf29 : Fence.wide.fn 85 := trivial
  gi_wp2_with (first
    | (gi_at_call 85; refine (callsIn_wide.2 (free_c s _)).mono ?_; rintro e w' ⟨rfl, rfl⟩)
    | (gi_at_call 51; refine (callsIn_wide.2 (needs_c _ _ _ _)).mono ?_; rintro e w' ⟨rfl, rfl⟩))
  clear hmm
  obtain ⟨W0, hW0⟩ : ∃ W0, ((((((((((w.alloc (.cells #[.int .u64 s.q, .slice s.P s.np s.cp, .slice s.R s.nr s.cr, .slice s.L s.nl s.cl, .slice s.G s.ng s.cg, .slice s.O s.no s.co] 77)).alloc (.cells #[.int .i64 a.t, .int .u64 a.n, .int .i64 a.k, .bool a.sure, .slice a.lA a.ln a.lc, .slice a.gA a.gn a.gc, .slice a.sA a.sn a.sc, .int .i64 a.mq, .slice a.oA a.on a.oc, .int .i64 a.r1, .int .i64 a.r2, .int .i64 a.r3, .int .i64 a.tu, .int .u64 a.gen, .slice a.hA a.hn a.hc] 88)).alloc (.map #[] 0)).alloc (.cells #[.map (some (w.heap.size + 1 + 1))] 127)).alloc (.cells #[.func (.func 209) #[] #[.pointer (some ⟨w.heap.size + 1 + 1 + 1, 0, none⟩)]] 273)).alloc (.cells #[.int .u64 s.q, .slice s.P s.np s.cp, .slice s.R s.nr s.cr, .slice s.L s.nl s.cl, .slice s.G s.ng s.cg, .slice s.O s.no s.co] 77)).alloc (.cells #[.func (.func 148) #[] #[.pointer (some ⟨w.heap.size + 1 + 1 + 1 + 1 + 1, 0, none⟩)]] 179)).alloc (.cells #[.slice none 0 0] 55)).alloc (.cells #[.int .i64 0] 3)).alloc (.cells #[.slice a.lA a.ln a.lc] 55)) = W0 := ⟨_, rfl⟩
  have F0 : Fr no w W0 := by rw [← hW0]; exact (((((((((((Fr.refl no w).alloc _).alloc _).alloc _).alloc _).alloc _).alloc _).alloc _).alloc _).alloc _).alloc _)
  have z0 : W0.heap.size = w.heap.size + 1 + 1 + 1 + 1 + 1 + 1 + 1 + 1 + 1 + 1 := by rw [← hW0]; simp
  have k0 : Blk W0 (w.heap.size) 77 #[.int .u64 s.q, .slice s.P s.np s.cp, .slice s.R s.nr s.cr, .slice s.L s.nl s.cl, .slice s.G s.ng s.cg, .slice s.O s.no s.co] := by
    rw [← hW0]
    exact ((((((((((blk_at w 77 (w.heap.size) #[.int .u64 s.q, .slice s.P s.np s.cp, .slice s.R s.nr s.cr, .slice s.L s.nl s.cl, .slice s.G s.ng s.cg, .slice s.O s.no s.co] (by simp)).alloc (.cells #[.int .i64 a.t, .int .u64 a.n, .int .i64 a.k, .bool a.sure, .slice a.lA a.ln a.lc, .slice a.gA a.gn a.gc, .slice a.sA a.sn a.sc, .int .i64 a.mq, .slice a.oA a.on a.oc, .int .i64 a.r1, .int .i64 a.r2, .int .i64 a.r3, .int .i64 a.tu, .int .u64 a.gen, .slice a.hA a.hn a.hc] 88)).alloc (.map #[] 0)).alloc (.cells #[.map (some (w.heap.size + 1 + 1))] 127)).alloc (.cells #[.func (.func 209) #[] #[.pointer (some ⟨w.heap.size + 1 + 1 + 1, 0, none⟩)]] 273)).alloc (.cells #[.int .u64 s.q, .slice s.P s.np s.cp, .slice s.R s.nr s.cr, .slice s.L s.nl s.cl, .slice s.G s.ng s.cg, .slice s.O s.no s.co] 77)).alloc (.cells #[.func (.func 148) #[] #[.pointer (some ⟨w.heap.size + 1 + 1 + 1 + 1 + 1, 0, none⟩)]] 179)).alloc (.cells #[.slice none 0 0] 55)).alloc (.cells #[.int .i64 0] 3)).alloc (.cells #[.slice a.lA a.ln a.lc] 55))
  have k1 : Blk W0 (w.heap.size + 1) 88 #[.int .i64 a.t, .int .u64 a.n, .int .i64 a.k, .bool a.sure, .slice a.lA a.ln a.lc, .slice a.gA a.gn a.gc, .slice a.sA a.sn a.sc, .int .i64 a.mq, .slice a.oA a.on a.oc, .int .i64 a.r1, .int .i64 a.r2, .int .i64 a.r3, .int .i64 a.tu, .int .u64 a.gen, .slice a.hA a.hn a.hc] := by
    rw [← hW0]
    exact (((((((((blk_at (w.alloc (.cells #[.int .u64 s.q, .slice s.P s.np s.cp, .slice s.R s.nr s.cr, .slice s.L s.nl s.cl, .slice s.G s.ng s.cg, .slice s.O s.no s.co] 77)) 88 (w.heap.size + 1) #[.int .i64 a.t, .int .u64 a.n, .int .i64 a.k, .bool a.sure, .slice a.lA a.ln a.lc, .slice a.gA a.gn a.gc, .slice a.sA a.sn a.sc, .int .i64 a.mq, .slice a.oA a.on a.oc, .int .i64 a.r1, .int .i64 a.r2, .int .i64 a.r3, .int .i64 a.tu, .int .u64 a.gen, .slice a.hA a.hn a.hc] (by simp)).alloc (.map #[] 0)).alloc (.cells #[.map (some (w.heap.size + 1 + 1))] 127)).alloc (.cells #[.func (.func 209) #[] #[.pointer (some ⟨w.heap.size + 1 + 1 + 1, 0, none⟩)]] 273)).alloc (.cells #[.int .u64 s.q, .slice s.P s.np s.cp, .slice s.R s.nr s.cr, .slice s.L s.nl s.cl, .slice s.G s.ng s.cg, .slice s.O s.no s.co] 77)).alloc (.cells #[.func (.func 148) #[] #[.pointer (some ⟨w.heap.size + 1 + 1 + 1 + 1 + 1, 0, none⟩)]] 179)).alloc (.cells #[.slice none 0 0] 55)).alloc (.cells #[.int .i64 0] 3)).alloc (.cells #[.slice a.lA a.ln a.lc] 55))
  have k3 : Blk W0 (w.heap.size + 1 + 1 + 1) 127 #[.map (some (w.heap.size + 1 + 1))] := by
    rw [← hW0]
    exact (((((((blk_at (((w.alloc (.cells #[.int .u64 s.q, .slice s.P s.np s.cp, .slice s.R s.nr s.cr, .slice s.L s.nl s.cl, .slice s.G s.ng s.cg, .slice s.O s.no s.co] 77)).alloc (.cells #[.int .i64 a.t, .int .u64 a.n, .int .i64 a.k, .bool a.sure, .slice a.lA a.ln a.lc, .slice a.gA a.gn a.gc, .slice a.sA a.sn a.sc, .int .i64 a.mq, .slice a.oA a.on a.oc, .int .i64 a.r1, .int .i64 a.r2, .int .i64 a.r3, .int .i64 a.tu, .int .u64 a.gen, .slice a.hA a.hn a.hc] 88)).alloc (.map #[] 0)) 127 (w.heap.size + 1 + 1 + 1) #[.map (some (w.heap.size + 1 + 1))] (by simp)).alloc (.cells #[.func (.func 209) #[] #[.pointer (some ⟨w.heap.size + 1 + 1 + 1, 0, none⟩)]] 273)).alloc (.cells #[.int .u64 s.q, .slice s.P s.np s.cp, .slice s.R s.nr s.cr, .slice s.L s.nl s.cl, .slice s.G s.ng s.cg, .slice s.O s.no s.co] 77)).alloc (.cells #[.func (.func 148) #[] #[.pointer (some ⟨w.heap.size + 1 + 1 + 1 + 1 + 1, 0, none⟩)]] 179)).alloc (.cells #[.slice none 0 0] 55)).alloc (.cells #[.int .i64 0] 3)).alloc (.cells #[.slice a.lA a.ln a.lc] 55))
  have k4 : Blk W0 (w.heap.size + 1 + 1 + 1 + 1) 273 #[.func (.func 209) #[] #[.pointer (some ⟨w.heap.size + 1 + 1 + 1, 0, none⟩)]] := by
    rw [← hW0]
    exact ((((((blk_at ((((w.alloc (.cells #[.int .u64 s.q, .slice s.P s.np s.cp, .slice s.R s.nr s.cr, .slice s.L s.nl s.cl, .slice s.G s.ng s.cg, .slice s.O s.no s.co] 77)).alloc (.cells #[.int .i64 a.t, .int .u64 a.n, .int .i64 a.k, .bool a.sure, .slice a.lA a.ln a.lc, .slice a.gA a.gn a.gc, .slice a.sA a.sn a.sc, .int .i64 a.mq, .slice a.oA a.on a.oc, .int .i64 a.r1, .int .i64 a.r2, .int .i64 a.r3, .int .i64 a.tu, .int .u64 a.gen, .slice a.hA a.hn a.hc] 88)).alloc (.map #[] 0)).alloc (.cells #[.map (some (w.heap.size + 1 + 1))] 127)) 273 (w.heap.size + 1 + 1 + 1 + 1) #[.func (.func 209) #[] #[.pointer (some ⟨w.heap.size + 1 + 1 + 1, 0, none⟩)]] (by simp)).alloc (.cells #[.int .u64 s.q, .slice s.P s.np s.cp, .slice s.R s.nr s.cr, .slice s.L s.nl s.cl, .slice s.G s.ng s.cg, .slice s.O s.no s.co] 77)).alloc (.cells #[.func (.func 148) #[] #[.pointer (some ⟨w.heap.size + 1 + 1 + 1 + 1 + 1, 0, none⟩)]] 179)).alloc (.cells #[.slice none 0 0] 55)).alloc (.cells #[.int .i64 0] 3)).alloc (.cells #[.slice a.lA a.ln a.lc] 55))
  have k5 : Blk W0 (w.heap.size + 1 + 1 + 1 + 1 + 1) 77 #[.int .u64 s.q, .slice s.P s.np s.cp, .slice s.R s.nr s.cr, .slice s.L s.nl s.cl, .slice s.G s.ng s.cg, .slice s.O s.no s.co] := by
    rw [← hW0]
    exact (((((blk_at (((((w.alloc (.cells #[.int .u64 s.q, .slice s.P s.np s.cp, .slice s.R s.nr s.cr, .slice s.L s.nl s.cl, .slice s.G s.ng s.cg, .slice s.O s.no s.co] 77)).alloc (.cells #[.int .i64 a.t, .int .u64 a.n, .int .i64 a.k, .bool a.sure, .slice a.lA a.ln a.lc, .slice a.gA a.gn a.gc, .slice a.sA a.sn a.sc, .int .i64 a.mq, .slice a.oA a.on a.oc, .int .i64 a.r1, .int .i64 a.r2, .int .i64 a.r3, .int .i64 a.tu, .int .u64 a.gen, .slice a.hA a.hn a.hc] 88)).alloc (.map #[] 0)).alloc (.cells #[.map (some (w.heap.size + 1 + 1))] 127)).alloc (.cells #[.func (.func 209) #[] #[.pointer (some ⟨w.heap.size + 1 + 1 + 1, 0, none⟩)]] 273)) 77 (w.heap.size + 1 + 1 + 1 + 1 + 1) #[.int .u64 s.q, .slice s.P s.np s.cp, .slice s.R s.nr s.cr, .slice s.L s.nl s.cl, .slice s.G s.ng s.cg, .slice s.O s.no s.co] (by simp)).alloc (.cells #[.func (.func 148) #[] #[.pointer (some ⟨w.heap.size + 1 + 1 + 1 + 1 + 1, 0, none⟩)]] 179)).alloc (.cells #[.slice none 0 0] 55)).alloc (.cells #[.int .i64 0] 3)).alloc (.cells #[.slice a.lA a.ln a.lc] 55))
  have k6 : Blk W0 (w.heap.size + 1 + 1 + 1 + 1 + 1 + 1) 179 #[.func (.func 148) #[] #[.pointer (some ⟨w.heap.size + 1 + 1 + 1 + 1 + 1, 0, none⟩)]] := by
    rw [← hW0]
    exact ((((blk_at ((((((w.alloc (.cells #[.int .u64 s.q, .slice s.P s.np s.cp, .slice s.R s.nr s.cr, .slice s.L s.nl s.cl, .slice s.G s.ng s.cg, .slice s.O s.no s.co] 77)).alloc (.cells #[.int .i64 a.t, .int .u64 a.n, .int .i64 a.k, .bool a.sure, .slice a.lA a.ln a.lc, .slice a.gA a.gn a.gc, .slice a.sA a.sn a.sc, .int .i64 a.mq, .slice a.oA a.on a.oc, .int .i64 a.r1, .int .i64 a.r2, .int .i64 a.r3, .int .i64 a.tu, .int .u64 a.gen, .slice a.hA a.hn a.hc] 88)).alloc (.map #[] 0)).alloc (.cells #[.map (some (w.heap.size + 1 + 1))] 127)).alloc (.cells #[.func (.func 209) #[] #[.pointer (some ⟨w.heap.size + 1 + 1 + 1, 0, none⟩)]] 273)).alloc (.cells #[.int .u64 s.q, .slice s.P s.np s.cp, .slice s.R s.nr s.cr, .slice s.L s.nl s.cl, .slice s.G s.ng s.cg, .slice s.O s.no s.co] 77)) 179 (w.heap.size + 1 + 1 + 1 + 1 + 1 + 1) #[.func (.func 148) #[] #[.pointer (some ⟨w.heap.size + 1 + 1 + 1 + 1 + 1, 0, none⟩)]] (by simp)).alloc (.cells #[.slice none 0 0] 55)).alloc (.cells #[.int .i64 0] 3)).alloc (.cells #[.slice a.lA a.ln a.lc] 55))
  have k7 : Blk W0 (w.heap.size + 1 + 1 + 1 + 1 + 1 + 1 + 1) 55 #[.slice none 0 0] := by
    rw [← hW0]
    exact (((blk_at (((((((w.alloc (.cells #[.int .u64 s.q, .slice s.P s.np s.cp, .slice s.R s.nr s.cr, .slice s.L s.nl s.cl, .slice s.G s.ng s.cg, .slice s.O s.no s.co] 77)).alloc (.cells #[.int .i64 a.t, .int .u64 a.n, .int .i64 a.k, .bool a.sure, .slice a.lA a.ln a.lc, .slice a.gA a.gn a.gc, .slice a.sA a.sn a.sc, .int .i64 a.mq, .slice a.oA a.on a.oc, .int .i64 a.r1, .int .i64 a.r2, .int .i64 a.r3, .int .i64 a.tu, .int .u64 a.gen, .slice a.hA a.hn a.hc] 88)).alloc (.map #[] 0)).alloc (.cells #[.map (some (w.heap.size + 1 + 1))] 127)).alloc (.cells #[.func (.func 209) #[] #[.pointer (some ⟨w.heap.size + 1 + 1 + 1, 0, none⟩)]] 273)).alloc (.cells #[.int .u64 s.q, .slice s.P s.np s.cp, .slice s.R s.nr s.cr, .slice s.L s.nl s.cl, .slice s.G s.ng s.cg, .slice s.O s.no s.co] 77)).alloc (.cells #[.func (.func 148) #[] #[.pointer (some ⟨w.heap.size + 1 + 1 + 1 + 1 + 1, 0, none⟩)]] 179)) 55 (w.heap.size + 1 + 1 + 1 + 1 + 1 + 1 + 1) #[.slice none 0 0] (by simp)).alloc (.cells #[.int .i64 0] 3)).alloc (.cells #[.slice a.lA a.ln a.lc] 55))
  have k8 : Blk W0 (w.heap.size + 1 + 1 + 1 + 1 + 1 + 1 + 1 + 1) 3 #[.int .i64 0] := by
    rw [← hW0]
    exact ((blk_at ((((((((w.alloc (.cells #[.int .u64 s.q, .slice s.P s.np s.cp, .slice s.R s.nr s.cr, .slice s.L s.nl s.cl, .slice s.G s.ng s.cg, .slice s.O s.no s.co] 77)).alloc (.cells #[.int .i64 a.t, .int .u64 a.n, .int .i64 a.k, .bool a.sure, .slice a.lA a.ln a.lc, .slice a.gA a.gn a.gc, .slice a.sA a.sn a.sc, .int .i64 a.mq, .slice a.oA a.on a.oc, .int .i64 a.r1, .int .i64 a.r2, .int .i64 a.r3, .int .i64 a.tu, .int .u64 a.gen, .slice a.hA a.hn a.hc] 88)).alloc (.map #[] 0)).alloc (.cells #[.map (some (w.heap.size + 1 + 1))] 127)).alloc (.cells #[.func (.func 209) #[] #[.pointer (some ⟨w.heap.size + 1 + 1 + 1, 0, none⟩)]] 273)).alloc (.cells #[.int .u64 s.q, .slice s.P s.np s.cp, .slice s.R s.nr s.cr, .slice s.L s.nl s.cl, .slice s.G s.ng s.cg, .slice s.O s.no s.co] 77)).alloc (.cells #[.func (.func 148) #[] #[.pointer (some ⟨w.heap.size + 1 + 1 + 1 + 1 + 1, 0, none⟩)]] 179)).alloc (.cells #[.slice none 0 0] 55)) 3 (w.heap.size + 1 + 1 + 1 + 1 + 1 + 1 + 1 + 1) #[.int .i64 0] (by simp)).alloc (.cells #[.slice a.lA a.ln a.lc] 55))
  have k9 : Blk W0 (w.heap.size + 1 + 1 + 1 + 1 + 1 + 1 + 1 + 1 + 1) 55 #[.slice a.lA a.ln a.lc] := by
    rw [← hW0]
    exact (blk_at (((((((((w.alloc (.cells #[.int .u64 s.q, .slice s.P s.np s.cp, .slice s.R s.nr s.cr, .slice s.L s.nl s.cl, .slice s.G s.ng s.cg, .slice s.O s.no s.co] 77)).alloc (.cells #[.int .i64 a.t, .int .u64 a.n, .int .i64 a.k, .bool a.sure, .slice a.lA a.ln a.lc, .slice a.gA a.gn a.gc, .slice a.sA a.sn a.sc, .int .i64 a.mq, .slice a.oA a.on a.oc, .int .i64 a.r1, .int .i64 a.r2, .int .i64 a.r3, .int .i64 a.tu, .int .u64 a.gen, .slice a.hA a.hn a.hc] 88)).alloc (.map #[] 0)).alloc (.cells #[.map (some (w.heap.size + 1 + 1))] 127)).alloc (.cells #[.func (.func 209) #[] #[.pointer (some ⟨w.heap.size + 1 + 1 + 1, 0, none⟩)]] 273)).alloc (.cells #[.int .u64 s.q, .slice s.P s.np s.cp, .slice s.R s.nr s.cr, .slice s.L s.nl s.cl, .slice s.G s.ng s.cg, .slice s.O s.no s.co] 77)).alloc (.cells #[.func (.func 148) #[] #[.pointer (some ⟨w.heap.size + 1 + 1 + 1 + 1 + 1, 0, none⟩)]] 179)).alloc (.cells #[.slice none 0 0] 55)).alloc (.cells #[.int .i64 0] 3)) 55 (w.heap.size + 1 + 1 + 1 + 1 + 1 + 1 + 1 + 1 + 1) #[.slice a.lA a.ln a.lc] (by simp))
  have kM : kindKey.Mp 2 W0 (w.heap.size + 1 + 1) 0 (fun _ => none) := by
    rw [← hW0]
    have q := KeyK.Mp.made (kk := kindKey) ((w.alloc (.cells #[.int .u64 s.q, .slice s.P s.np s.cp, .slice s.R s.nr s.cr, .slice s.L s.nl s.cl, .slice s.G s.ng s.cg, .slice s.O s.no s.co] 77)).alloc (.cells #[.int .i64 a.t, .int .u64 a.n, .int .i64 a.k, .bool a.sure, .slice a.lA a.ln a.lc, .slice a.gA a.gn a.gc, .slice a.sA a.sn a.sc, .int .i64 a.mq, .slice a.oA a.on a.oc, .int .i64 a.r1, .int .i64 a.r2, .int .i64 a.r3, .int .i64 a.tu, .int .u64 a.gen, .slice a.hA a.hn a.hc] 88)) 2
    rw [World.size_alloc, World.size_alloc] at q
    exact q.kept0 ((((((((Fr.refl no _).alloc (.cells #[.map (some (w.heap.size + 1 + 1))] 127)).alloc (.cells #[.func (.func 209) #[] #[.pointer (some ⟨w.heap.size + 1 + 1 + 1, 0, none⟩)]] 273)).alloc (.cells #[.int .u64 s.q, .slice s.P s.np s.cp, .slice s.R s.nr s.cr, .slice s.L s.nl s.cl, .slice s.G s.ng s.cg, .slice s.O s.no s.co] 77)).alloc (.cells #[.func (.func 148) #[] #[.pointer (some ⟨w.heap.size + 1 + 1 + 1 + 1 + 1, 0, none⟩)]] 179)).alloc (.cells #[.slice none 0 0] 55)).alloc (.cells #[.int .i64 0] 3)).alloc (.cells #[.slice a.lA a.ln a.lc] 55))
  rw [hW0]
  clear hW0
  have I0 : ClampI w W0 ps xs [] W0 := ⟨Fr.refl _ _, kM, k8, none, 0, 0, k7, World.ownsRow_nil _ _ _ _, Nat.le_refl _⟩
  have c9 : W0.cell? ⟨w.heap.size + 1 + 1 + 1 + 1 + 1 + 1 + 1 + 1 + 1, 0, none⟩ = some (.slice a.lA xs.length a.lc) := by rw [← HLN.out]; exact k9.cell 0
  have HK0 := hide k0
  have HK1 := hide k1
  have HK3 := hide k3
  have HK4 := hide k4
  have HK5 := hide k5
  have HK6 := hide k6
  clear k0 k1 k3 k4 k5 k6 k7 k8 k9 kM
  refine wpIn_rangeFunc_ownH (α := NeedT) rfl (by omega) (gf := 105) (lb := #[.pointer (some ⟨w.heap.size + 1 + 1 + 1 + 1 + 1 + 1 + 1 + 1 + 1, 0, none⟩)]) rfl trivial (enters_of Tryz.func105 (by kernel_rfl) rfl)
    (needs_stops (w.heap.size + 1 + 1 + 1 + 1 + 1 + 1 + 1 + 1 + 1) w.heap.size a.lA a.lc xs HX.out W0 (by omega) c9 ((HQ.out W0 F0).2.2.1) (fun hn => ((HQ.out w (Fr.refl _ _)).2.2.1).lt hn)) belowK_t (belowK_b (by omega)) (Below.refl _ _) (fun _ => rfl)
    (ClampI w W0 ps xs) (fun _ _ _ => False) (clampI_own w W0 ps xs z0) (fun _ _ _ _ _ hs _ _ => hs) I0
    (fun x a' W => ∃ Bx, W0.heap.size ≤ Bx ∧ Blk W Bx 132 #[.int .i64 x.1.1.1, .int .i64 x.1.1.2] ∧ a' = { tmps := #[.agg #[.int .u64 s.q, .slice s.P s.np s.cp, .slice s.R s.nr s.cr, .slice s.L s.nl s.cl, .slice s.G s.ng s.cg, .slice s.O s.no s.co], .agg #[.int .i64 a.t, .int .u64 a.n, .int .i64 a.k, .bool a.sure, .slice a.lA a.ln a.lc, .slice a.gA a.gn a.gc, .slice a.sA a.sn a.sc, .int .i64 a.mq, .slice a.oA a.on a.oc, .int .i64 a.r1, .int .i64 a.r2, .int .i64 a.r3, .int .i64 a.tu, .int .u64 a.gen, .slice a.hA a.hn a.hc], .pointer (some ⟨w.heap.size, 0, none⟩), .pointer (some ⟨w.heap.size + 1, 0, none⟩), .slice none 0 0, .slice none 0 0, .pointer (some ⟨w.heap.size + 1 + 1 + 1, 0, none⟩), .pointer (some ⟨w.heap.size + 1 + 1 + 1 + 1, 0, none⟩), .pointer (some ⟨w.heap.size + 1 + 1 + 1 + 1 + 1 + 1, 0, none⟩), .pointer (some ⟨w.heap.size + 1 + 1 + 1 + 1 + 1 + 1 + 1, 0, none⟩), .pointer (some ⟨w.heap.size + 1 + 1 + 1 + 1 + 1 + 1 + 1 + 1, 0, none⟩), .pointer (some ⟨Bx, 0, none⟩), undef, undef, undef, undef, undef, undef, .map (some (w.heap.size + 1 + 1)), .func (.func 209) #[] #[.pointer (some ⟨w.heap.size + 1 + 1 + 1, 0, none⟩)], .agg #[.int .u64 s.q, .slice s.P s.np s.cp, .slice s.R s.nr s.cr, .slice s.L s.nl s.cl, .slice s.G s.ng s.cg, .slice s.O s.no s.co], .func (.func 148) #[] #[.pointer (some ⟨w.heap.size + 1 + 1 + 1 + 1 + 1, 0, none⟩)], .pointer (some ⟨w.heap.size + 1, 4, none⟩), .slice a.lA a.ln a.lc, .func (.func 105) #[] #[.pointer (some ⟨w.heap.size + 1 + 1 + 1 + 1 + 1 + 1 + 1 + 1 + 1, 0, none⟩)], .agg #[.int .i64 x.1.1.1, .int .i64 x.1.1.2], .int .i64 x.1.2, undef, undef, undef, undef, undef, undef, undef, undef, undef, undef, undef, undef, undef, undef, undef, undef, undef, undef, undef, undef, undef, undef, undef, undef, undef, undef, undef, undef, undef, undef, undef, undef, undef, undef, undef, undef, undef, undef, undef, undef, undef, undef, undef, undef, undef, undef, undef, undef, undef, undef, undef, undef, undef, undef, undef, undef, undef, undef, undef, undef, undef, undef, undef, undef, undef, undef, undef, undef, undef], defers := [] }) ?hAx ?assign ?body ?done ?stop
  case hAx =>
    rintro x a' _ W W' row ⟨Bx, h1, h2, h3⟩ hg hr
    refine ⟨Bx, h1, h2.kept (Fr.of_grown hg) (fun e => ?_), h3⟩
    obtain ⟨_, o, ho, hc⟩ := hr _ e.symm
    rw [show W.heap[Bx]? = _ from h2] at ho
    cases ho
    cases hc
  case assign =>
    intro l pre x W K hI hK
    obtain ⟨⟨⟨c1, k1⟩, n1⟩, hx1⟩ := x
    have hsz := hI.1.size
    rw [show needEnc ⟨((c1, k1), n1), hx1⟩ = #[.agg #[.int .i64 c1, .int .i64 k1], .int .i64 n1] from rfl]
    gi_wp2
    have F : Fr no W (W.alloc (.cells #[.int .i64 c1, .int .i64 k1] 132)) := (Fr.refl no W).alloc _
    obtain ⟨h1, h2, h3, vA, vn, vc, h4, h5, h6⟩ := hI
    exact hK _ _ ((KeepsOthers.alloc _ _).from _) ((Below.refl _ W).alloc (by omega) _) ⟨h1.trans0 F, h2.kept0 F, h3.kept0 F, vA, vn, vc, h4.kept0 F, own_kept h5 F, h6⟩ ⟨W.heap.size, hsz, Blk.new W _ _, rfl⟩
  case body =>
    rintro l pre x a' W hl ⟨r, hr⟩ ⟨F, M, bI, vA, vn, vc, bV, own, hml⟩ ⟨Bx, hBx, bX, rfl⟩ hlt
    obtain ⟨⟨⟨c1, k1⟩, n1⟩, hx1⟩ := x
    simp only at bX
    have hf47 : Fence.wide.fn 106 := trivial
    have hf73 : Fence.wide.fn 209 := trivial
    have hf74 : Fence.wide.fn 210 := trivial
    have hsz := F.size
    have HZ := hide z0
    have FW : Hid (Fr no w W) := hide (F0.thru F (fun i hi e => by omega))
    have hS : ∀ k, k < W0.heap.size → k ≠ w.heap.size + 1 + 1 → k ≠ w.heap.size + 1 + 1 + 1 + 1 + 1 + 1 + 1 → k ≠ w.heap.size + 1 + 1 + 1 + 1 + 1 + 1 + 1 + 1 → ¬ (k = w.heap.size + 1 + 1 ∨ k = w.heap.size + 1 + 1 + 1 + 1 + 1 + 1 + 1 ∨ k = w.heap.size + 1 + 1 + 1 + 1 + 1 + 1 + 1 + 1 ∨ W0.heap.size ≤ k) := fun k h1 h2 h3 h4 h => by omega
    have B0 := hide (HK0.out.kept F (hS _ (by omega) (by omega) (by omega) (by omega)))
    have B1 := hide (HK1.out.kept F (hS _ (by omega) (by omega) (by omega) (by omega)))
    have B3 := hide (HK3.out.kept F (hS _ (by omega) (by omega) (by omega) (by omega)))
    have B4 := hide (HK4.out.kept F (hS _ (by omega) (by omega) (by omega) (by omega)))
    have B5 := hide (HK5.out.kept F (hS _ (by omega) (by omega) (by omega) (by omega)))
    have B6 := hide (HK6.out.kept F (hS _ (by omega) (by omega) (by omega) (by omega)))
    clear hS
    obtain ⟨lc1, d1, hxm⟩ : ∃ lc1 d1, xs[pre.length] = (lc1, d1) := ⟨_, _, rfl⟩
    have hd1 : Wf64 d1 := by have := HX.out _ (List.getElem_mem hlt); rw [hxm] at this; exact this.2
    have hst := clampSt_snoc ps (metL xs pre) ((c1, k1), (lc1, d1))
    have hmet := metL_snoc xs pre ⟨((c1, k1), n1), hx1⟩ hlt
    rw [hxm] at hmet
    rw [← hmet] at hst
    obtain ⟨f, made, hfm⟩ : ∃ f made, clampSt ps (metL xs pre) = (f, made) := ⟨_, _, rfl⟩
    rw [hfm] at M own hml hst
    simp only at M own hml
    obtain ⟨v0, hv0⟩ : ∃ v0, v0 = (f (c1, k1)).getD 0 := ⟨_, rfl⟩
    obtain ⟨fr0, hfr0⟩ : ∃ fr0, fr0 = freeD ps c1 k1 := ⟨_, rfl⟩
    have hkok : kindKey.ok (c1, k1) := ⟨wf_lit hx1.1.1, wf_lit hx1.1.2⟩
    have m1 : ∀ p : FrBy W, p.w.cell? ⟨w.heap.size + 1 + 1 + 1 + 1 + 1 + 1, 0, none⟩ = some (.func (.func 148) #[] #[.pointer (some ⟨w.heap.size + 1 + 1 + 1 + 1 + 1, 0, none⟩)]) := fun p => (B6.out.kept0 p.fr).cell 0
    have m2 : ∀ p : FrBy W, p.w.cell? ⟨Bx, 0, none⟩ = some (.int .i64 c1) := fun p => (bX.kept0 p.fr).cell 0
    have m3 : ∀ p : FrBy W, p.w.cell? ⟨Bx, 1, none⟩ = some (.int .i64 k1) := fun p => (bX.kept0 p.fr).cell 1
    have m4 : ∀ p : FrBy W, p.w.cell? ⟨w.heap.size + 1 + 1 + 1, 0, none⟩ = some (.map (some (w.heap.size + 1 + 1))) := fun p => (B3.out.kept0 p.fr).cell 0
    have m5 : ∀ p : FrBy W, (Instr.lookup 127 (.map (some (w.heap.size + 1 + 1))) (.agg #[.int .i64 c1, .int .i64 k1]) false).run Tryz.prog p.w = .ok (.int .i64 v0) p.w := fun p => by
      rw [hv0]
      exact (M.kept0 p.fr).look Tryz.underlying127 Tryz.underlying2 (fun u => by kernel_rfl) hkok
    have HM5 := hide hv0
    have HFR := hide hfr0
    have HST := hide hst
    have HM := hide M
    have HBX := hide bX
    have HBI := hide bI
    have HBV := hide bV
    have HOWN := hide own
    have HHR := hide hr
    have HXM := hide hxm
    have HF1 : Hid (∀ p : FrBy W, Calls Tryz.prog 148 #[.agg #[.int .i64 c1, .int .i64 k1, .int .i64 0], .pointer (some ⟨w.heap.size + 1 + 1 + 1 + 1 + 1, 0, none⟩)] p.w fun e w'' => e = .returned (.int .i64 fr0) ∧ ∃ q : FrBy W, w'' = q.w) := hide (fun p => calls_fr (by
      have q := free1_c s ps HNP.out (w.heap.size + 1 + 1 + 1 + 1 + 1) c1 k1 0 p.w (B5.out.kept0 p.fr) (HQ.out _ (FW.out.trans p.fr)).1
      rw [← HFR.out] at q; exact q))
    clear hst M bX bI bV own hv0 hfr0 hr hmet hfm hxm
    gi_wp2
    refine wpIn_region_fr W (by kernel_rfl) (by kernel_rfl) (Fr.refl _ _) ?_
    repeat (quiet_step (exact HF1.out _))
    refine wpQuiet_nil ?_
    intro wz hw'
    obtain ⟨pz, rfl⟩ := hw'
    have hq := pz.fr
    generalize pz.w = wq at hq ⊢
    clear m1 m2 m3 m4 m5
    have hrmw : Wf64 (IntKind.i64.wrap (fr0 - v0)) := wr64_wf _
    obtain ⟨rm, hrm⟩ : ∃ rm, rm = IntKind.i64.wrap (fr0 - v0) := ⟨_, rfl⟩
    rw [← hrm] at hrmw ⊢
    obtain ⟨x0, hx0⟩ : ∃ x0, x0 = cutD d1 rm := ⟨_, rfl⟩
    have hx0w : Wf64 x0 := by rw [hx0]; exact cutD_wf hd1 hrmw
    have HCUT : Hid (∀ W', Calls Tryz.prog 210 #[.int .i64 d1, .int .i64 rm] W' fun e w' => e = .returned (.int .i64 x0) ∧ W' = w') := hide (fun W' => by rw [hx0]; exact (cut_c d1 rm hd1 hrmw W').mono (fun _ _ h => ⟨h.1, h.2.symm⟩))
    have HST2 : Hid (clampSt ps (metL xs (pre ++ [(⟨((c1, k1), n1), hx1⟩ : NeedT)])) = if x0 = 0 then (f, made) else (takeD f (c1, k1) (amtOf x0), made ++ [(c1, x0)])) := hide (by
      rw [HST.out]
      unfold clampStep wr64
      simp only []
      rw [← HFR.out, ← HM5.out, ← hrm, ← hx0])
    clear hx0 hrm HST
    obtain ⟨gl, ol, hlA, hlc⟩ := (HQ.out _ (FW.out.trans hq)).2.2.1.cells (List.length_pos_iff.1 (by omega))
    have e1 : wq.cell? ⟨gl, ol + pre.length * 2 + 1, none⟩ = some (.int .i64 d1) := by
      have := hlc pre.length hlt 1 (by decide)
      rw [HXM.out] at this; exact this
    have e2 : wq.cell? ⟨w.heap.size + 1, 4, none⟩ = some (.slice a.lA a.ln a.lc) := (B1.out.kept0 hq).cell 4
    have e3 : wq.cell? ⟨w.heap.size + 1 + 1 + 1 + 1 + 1 + 1 + 1 + 1, 0, none⟩ = some (.int .i64 pre.length) := (HBI.out.kept0 hq).cell 0
    have e4 : wq.frozen? ⟨w.heap.size + 1 + 1 + 1 + 1 + 1 + 1 + 1 + 1, 0, none⟩ = false := (HBI.out.kept0 hq).free 0
    have i0 : (0 : Int) ≤ pre.length := by omega
    have i1 : (pre.length : Int) < a.ln := by have := HLN.out; omega
    have HW := hide hq
    clear hlc hq
    by_cases h0 : x0 = 0
    · have POST : Hid (ownPostG W0.heap.size (Below w.heap.size) (ClampI w W0 ps xs) (fun _ _ _ => False) (pre ++ [(⟨((c1, k1), n1), hx1⟩ : NeedT)]) W .normal { tmps := #[], defers := [] } (wq.setCell ⟨w.heap.size + 1 + 1 + 1 + 1 + 1 + 1 + 1 + 1, 0, none⟩ (.int .i64 (pre.length + 1)))) := hide (by
        have hF : Fr (fun i => i = w.heap.size + 1 + 1 ∨ i = w.heap.size + 1 + 1 + 1 + 1 + 1 + 1 + 1 ∨ i = w.heap.size + 1 + 1 + 1 + 1 + 1 + 1 + 1 + 1 ∨ some i = (Value.slice vA vn vc).ownBlock) W (wq.setCell ⟨w.heap.size + 1 + 1 + 1 + 1 + 1 + 1 + 1 + 1, 0, none⟩ (.int .i64 (pre.length + 1))) :=
          (HW.out.mono (fun _ _ e => e.elim)).trans ((Fr.setCell wq _ 0 _).mono (fun i _ e => .inr (.inr (.inl e))))
        have hk := clamp_keep HZ.out hsz hF HOWN.out
        have hob := own_base HOWN.out
        refine ⟨hk.1, hk.2, F.thru hF (fun i hi e => ?_), ?_, ?_, vA, vn, vc, ?_, ?_, ?_⟩
        · rcases e with e | e | e | e
          · exact .inl e
          · exact .inr (.inl e)
          · exact .inr (.inr (.inl e))
          · exact .inr (.inr (.inr (hob i e)))
        · rw [HST2.out, if_pos h0]
          exact ((HM.out.kept0 HW.out).kept (Fr.setCell wq _ 0 _) (by have := HZ.out; omega)).mono (by rw [List.length_append]; omega)
        · have q := (HBI.out.kept0 HW.out).set 0 (.int .i64 (pre.length + 1))
          simpa using q
        · exact (HBV.out.kept0 HW.out).setOther (by omega) 0 _
        · rw [HST2.out, if_pos h0]
          exact own_kept2 (own_kept HOWN.out HW.out) (Fr.setCell wq _ 0 _) (fun i hi e => by have := HZ.out; omega)
        · rw [HST2.out, if_pos h0]
          simp; omega)
      gi_wp2_with (gi_at_call 210; refine (CallsIn.inRound l (callsIn_wide.2 (HCUT.out _))).mono ?_; rintro e w' ⟨rfl, rfl⟩)
      exact POST.out
    · obtain ⟨i0', hi, hz0, hz1, hz2⟩ := info_parts info_line
      have hqx : IntKind.i64.wrap (x0.natAbs : Int) = amtOf x0 := natAbs_amt x0 hx0w
      obtain ⟨am, ham⟩ : ∃ am, am = amtOf x0 := ⟨_, rfl⟩
      rw [← ham] at hqx
      have HAM : Hid (∀ W', Calls Tryz.prog 106 #[.int .i64 x0] W' fun e w' => e = .returned (.int .u64 x0.natAbs) ∧ W' = w') := hide (fun W' => (amount_c x0 hx0w W').mono (fun _ _ h => ⟨h.1, h.2.symm⟩))
      have hN4 : 4 * pre.length + 4 < maxLen := by simp only [maxLen]; omega
      have HTK : Hid (∀ W', Fr no wq W' → Calls Tryz.prog 209 #[.agg #[.int .i64 c1, .int .i64 k1], .int .i64 am, .pointer (some ⟨w.heap.size + 1 + 1 + 1, 0, none⟩)] W' fun e w' => e = .returned (.tuple #[]) ∧ kindKey.Mp 2 w' (w.heap.size + 1 + 1) (4 * pre.length + 4) (takeD f (c1, k1) am) ∧ Fr (fun i => i = w.heap.size + 1 + 1) W' w') := hide (fun W' F' =>
        take_c c1 k1 am hx1.1.1 hx1.1.2 (w.heap.size + 1 + 1 + 1) (w.heap.size + 1 + 1) (4 * pre.length) f W' ((B3.out.kept0 HW.out).kept0 F') ((HM.out.kept0 HW.out).kept0 F') (by omega) hN4)
      have e5 : wq.cell? ⟨w.heap.size + 1 + 1 + 1 + 1, 0, none⟩ = some (.func (.func 209) #[] #[.pointer (some ⟨w.heap.size + 1 + 1 + 1, 0, none⟩)]) := (B4.out.kept0 HW.out).cell 0
      have e6 : wq.cell? ⟨Bx, 0, none⟩ = some (.int .i64 c1) := (HBX.out.kept0 HW.out).cell 0
      have e7 : wq.cell? ⟨Bx, 1, none⟩ = some (.int .i64 k1) := (HBX.out.kept0 HW.out).cell 1
      have HAMQ := hide ham
      clear ham
      gi_wp2_with (gi_at_call 210; refine (CallsIn.inRound l (callsIn_wide.2 (HCUT.out _))).mono ?_; rintro e w' ⟨rfl, rfl⟩)
      gi_region_with (first
        | (gi_at_call 106; refine (CallsIn.inRound l (callsIn_wide.2 (HAM.out _))).mono ?_; rintro e w' ⟨rfl, rfl⟩)
        | (gi_at_call 209; refine (CallsIn.inRound l (callsIn_wide.2 (HTK.out _ (Fr.refl _ _).drew))).mono ?_; rintro e wt ⟨rfl, MT, FT⟩))
      all_goals
        have hFT : Fr (fun i => i = w.heap.size + 1 + 1) wq wt := ((Fr.refl _ wq).drew).trans FT
        have HFT := hide hFT
        have HMT := hide MT
        have HBV2 := hide ((HBV.out.kept0 HW.out).kept hFT (by omega))
        have HBX2 := hide ((HBX.out.kept0 HW.out).kept hFT (by have := HZ.out; omega))
        have HBI2 := hide ((HBI.out.kept0 HW.out).kept hFT (by omega))
        have HOW2 := hide (own_kept2 (own_kept HOWN.out HW.out) hFT (fun i hi e => by have := HZ.out; omega))
        have r1 := HBV2.out.cell 0
        have r2 := HBX2.out.cell 0
        simp at r1 r2
        have hszt : W0.heap.size ≤ wt.heap.size := Nat.le_trans hsz (Nat.le_trans HW.out.size hFT.size)
        clear hFT FT MT
        gi_wp2_with (gi_at_builtin; refine wpListIn_append_one _ rfl _ _ 55 rfl W0.heap.size 57 i0' (.agg #[.int .i64 0, .int .i64 0]) 2 16 Tryz.underlying55 hi hz0 hz1 hz2 rfl (by decide) (by decide) _ made.length _ rfl (own_kept HOW2.out ((Fr.refl no wt).alloc _)) ⟨wt.heap.size, 0, none⟩ 1 [.int .i64 c1, .int .i64 x0] rfl rfl (new_cells wt _ _) (fun u hu => by simp at hu; rcases hu with rfl | rfl <;> rfl) (by simp only [maxLen]; omega) (by omega) (by simp; omega) ?_; intro v' w2 own2 grow2; obtain ⟨g', cap', rfl⟩ := ownsRow_succ own2; have HO2 := hide own2; have HOB := hide (own_base HOWN.out); have HF2 := hide (show Fr (fun i => some i = (Value.slice vA vn vc).ownBlock) wt w2 from ((Fr.refl _ wt).alloc _).trans (Fr.of_grown grow2)); have HBV3 := hide (HBV2.out.kept HF2.out (fun e => by have := HOB.out _ e; have := HZ.out; omega)); have HBI3 := hide (HBI2.out.kept HF2.out (fun e => by have := HOB.out _ e; have := HZ.out; omega)); have r3 := HBV3.out.cell 0; have r4 := HBV3.out.free 0; have r5 := fun vv => (HBI3.out.setOther (show w.heap.size + 1 + 1 + 1 + 1 + 1 + 1 + 1 + 1 ≠ w.heap.size + 1 + 1 + 1 + 1 + 1 + 1 + 1 by omega) 0 vv).cell 0; have r6 := fun vv => (HBI3.out.setOther (show w.heap.size + 1 + 1 + 1 + 1 + 1 + 1 + 1 + 1 ≠ w.heap.size + 1 + 1 + 1 + 1 + 1 + 1 + 1 by omega) 0 vv).free 0; simp at r3 r5; clear own2 grow2)
        have HPOST : Hid (ownPostG W0.heap.size (Below w.heap.size) (ClampI w W0 ps xs) (fun _ _ _ => False) (pre ++ [(⟨((c1, k1), n1), hx1⟩ : NeedT)]) W .normal { tmps := #[], defers := [] } ((w2.setCell ⟨w.heap.size + 1 + 1 + 1 + 1 + 1 + 1 + 1, 0, none⟩ (.slice (some ⟨g', 0, none⟩) (made.length + 1) cap')).setCell ⟨w.heap.size + 1 + 1 + 1 + 1 + 1 + 1 + 1 + 1, 0, none⟩ (.int .i64 (pre.length + 1)))) := hide (by
          have F1 : Fr (fun i => i = w.heap.size + 1 + 1 + 1 + 1 + 1 + 1 + 1 ∨ i = w.heap.size + 1 + 1 + 1 + 1 + 1 + 1 + 1 + 1) w2 ((w2.setCell ⟨w.heap.size + 1 + 1 + 1 + 1 + 1 + 1 + 1, 0, none⟩ (.slice (some ⟨g', 0, none⟩) (made.length + 1) cap')).setCell ⟨w.heap.size + 1 + 1 + 1 + 1 + 1 + 1 + 1 + 1, 0, none⟩ (.int .i64 (pre.length + 1))) :=
            ((Fr.setCell w2 _ 0 _).mono (fun i _ e => .inl e)).trans ((Fr.setCell _ _ 0 _).mono (fun i _ e => .inr e))
          have hF : Fr (fun i => i = w.heap.size + 1 + 1 ∨ i = w.heap.size + 1 + 1 + 1 + 1 + 1 + 1 + 1 ∨ i = w.heap.size + 1 + 1 + 1 + 1 + 1 + 1 + 1 + 1 ∨ some i = (Value.slice vA vn vc).ownBlock) W ((w2.setCell ⟨w.heap.size + 1 + 1 + 1 + 1 + 1 + 1 + 1, 0, none⟩ (.slice (some ⟨g', 0, none⟩) (made.length + 1) cap')).setCell ⟨w.heap.size + 1 + 1 + 1 + 1 + 1 + 1 + 1 + 1, 0, none⟩ (.int .i64 (pre.length + 1))) :=
            (((HW.out.mono (fun _ _ e => e.elim)).trans (HFT.out.mono (fun i _ e => .inl e))).trans (HF2.out.mono (fun i _ e => .inr (.inr (.inr e))))).trans (F1.mono (fun i _ e => by rcases e with e | e; exact .inr (.inl e); exact .inr (.inr (.inl e))))
          have hk := clamp_keep HZ.out hsz hF HOWN.out
          have hz := HZ.out
          refine ⟨hk.1, hk.2, F.thru hF (fun i hi e => ?_), ?_, ?_, some ⟨g', 0, none⟩, made.length + 1, cap', ?_, ?_, ?_⟩
          · rcases e with e | e | e | e
            · exact .inl e
            · exact .inr (.inl e)
            · exact .inr (.inr (.inl e))
            · exact .inr (.inr (.inr (HOB.out i e)))
          · rw [HST2.out, if_neg h0, ← HAMQ.out]
            exact ((HMT.out.kept HF2.out (fun e => by have := HOB.out _ e; omega)).kept F1 (by omega)).mono (by rw [List.length_append]; simp; omega)
          · have q := (HBI3.out.setOther (show w.heap.size + 1 + 1 + 1 + 1 + 1 + 1 + 1 + 1 ≠ w.heap.size + 1 + 1 + 1 + 1 + 1 + 1 + 1 by omega) 0 (.slice (some ⟨g', 0, none⟩) (made.length + 1) cap')).set 0 (.int .i64 (pre.length + 1))
            simpa using q
          · have q := (HBV3.out.set 0 (.slice (some ⟨g', 0, none⟩) (made.length + 1) cap')).setOther (show w.heap.size + 1 + 1 + 1 + 1 + 1 + 1 + 1 ≠ w.heap.size + 1 + 1 + 1 + 1 + 1 + 1 + 1 + 1 by omega) 0 (.int .i64 (pre.length + 1))
            simpa using q
          · rw [HST2.out, if_neg h0]
            simp only [List.length_append, List.length_cons, List.length_nil]
            rw [Flat.all_append]
            exact own_kept2 HO2.out F1 (fun i hi e => by omega)
          · rw [HST2.out, if_neg h0]
            simp only [List.length_append, List.length_cons, List.length_nil]
            omega)
        exact HPOST.out
  case done =>
    rintro D ys W hD rfl ⟨F, M, bI, vA, vn, vc, bV, own, hml⟩ hK
    rw [metL_all] at own hml
    have hmade : (clampSt ps (((needL xs).map (·.1)).zip xs)).2 = clampMade ps xs := rfl
    rw [hmade] at own hml
    obtain ⟨i0', hi, hz0, hz1, hz2⟩ := info_parts info_set
    have hf34 : Fence.wide.fn 91 := trivial
    have hf55 : Fence.wide.fn 192 := trivial
    have hsz := F.size
    have hDW : D < W.heap.size := (Array.getElem?_eq_some_iff.1 hK).1
    have FW : Hid (Fr no w W) := hide (F0.thru F (fun i hi e => by omega))
    have hS : ∀ k, k < W0.heap.size → k ≠ w.heap.size + 1 + 1 → k ≠ w.heap.size + 1 + 1 + 1 + 1 + 1 + 1 + 1 → k ≠ w.heap.size + 1 + 1 + 1 + 1 + 1 + 1 + 1 + 1 → ¬ (k = w.heap.size + 1 + 1 ∨ k = w.heap.size + 1 + 1 + 1 + 1 + 1 + 1 + 1 ∨ k = w.heap.size + 1 + 1 + 1 + 1 + 1 + 1 + 1 + 1 ∨ W0.heap.size ≤ k) := fun k h1 h2 h3 h4 h => by omega
    have B0 := hide (HK0.out.kept F (hS _ (by omega) (by omega) (by omega) (by omega)))
    have B1 := hide (HK1.out.kept F (hS _ (by omega) (by omega) (by omega) (by omega)))
    have HBV := hide bV
    obtain ⟨A1, c1, hE, hsl⟩ := om_of (f := fLine) own
    cases hE
    have HSL := hide hsl
    have HLO := hide (show w.heap.size ≤ W0.heap.size by omega)
    have HKD := hide hK
    have e2 : W.cell? ⟨w.heap.size + 1, 6, none⟩ = some (.slice a.sA a.sn a.sc) := B1.out.cell 6
    have hdw : Hid (w.heap.size ≤ D) := hide (by omega)
    clear hS F M bI bV own hml hK hD hsl
    gi_wp2
    gi_loopw [14, 66] (fun u i wr => ∃ m : Nat, i = .int .i64 m ∧ m ≤ sets.length ∧ Fr no W wr ∧ wr.ownsRow W.heap.size 108 3 u ((sets.take m).filter (timely vs)).length (fSet.all ((sets.take m).filter (timely vs)))) (fun _ i _ => sets.length - (intOf i).toNat)
    case atStart => exact ⟨0, rfl, Nat.zero_le _, Fr.refl _ _, World.ownsRow_nil _ _ _ _⟩
    case round =>
      obtain ⟨m, rfl, hm, F, own⟩ := hrel
      have hsn := HSN.out
      by_cases hlt : m < sets.length
      · obtain ⟨g, o, hsA, hc⟩ := (HQ.out wr (FW.out.trans F)).2.2.2.cells (List.length_pos_iff.1 (by omega))
        obtain ⟨r1, r2, r3, hrm⟩ : ∃ r1 r2 r3, sets[m] = (r1, r2, r3) := ⟨_, _, _, rfl⟩
        have a0 : wr.cell? ⟨g, o + m * 3, none⟩ = some (.int .i64 r1) := by
          have := hc m hlt 0 (by decide)
          rw [hrm] at this; exact this
        have a1 : wr.cell? ⟨g, o + m * 3 + 1, none⟩ = some (.int .i64 r2) := by
          have := hc m hlt 1 (by decide)
          rw [hrm] at this; exact this
        have a2 : wr.cell? ⟨g, o + m * 3 + 2, none⟩ = some (.int .i64 r3) := by
          have := hc m hlt 2 (by decide)
          rw [hrm] at this; exact this
        have b0 := fun ob => ((B0.out.kept0 F).alloc ob).cell 0
        have b1 := fun ob => ((B0.out.kept0 F).alloc ob).cell 1
        have b2 := fun ob => ((B0.out.kept0 F).alloc ob).cell 2
        have b3 := fun ob => ((B0.out.kept0 F).alloc ob).cell 3
        have b4 := fun ob => ((B0.out.kept0 F).alloc ob).cell 4
        have b5 := fun ob => ((B0.out.kept0 F).alloc ob).cell 5
        simp at b0 b1 b2 b3 b4 b5
        have HT := hide (show sets.take (m + 1) = sets.take m ++ [(r1, r2, r3)] by rw [← hrm]; exact (List.take_append_getElem hlt).symm)
        have i0 : (0 : Int) ≤ m := by omega
        have i1 : (m : Int) < a.sn := by omega
        obtain ⟨v, hv⟩ : ∃ v, v = versionD vs r1 := ⟨_, rfl⟩
        have HV := hide hv
        have HC : Hid (∀ W', Fr no wr W' → Calls Tryz.prog 91 #[.agg #[.int .u64 s.q, .slice s.P s.np s.cp, .slice s.R s.nr s.cr, .slice s.L s.nl s.cl, .slice s.G s.ng s.cg, .slice s.O s.no s.co], .int .i64 r1] W' fun e w' => e = .returned (.int .i64 v) ∧ Fr no W' w') := hide (fun W' F' => by
          rw [HV.out]; exact version_c s vs HNV.out r1 W' (HQ.out W' ((FW.out.trans F).trans F')).2.1)
        have HF := hide F
        have HOW := hide own
        have hlen : ((sets.take m).filter (timely vs)).length ≤ m := Nat.le_trans (List.length_filter_le _ _) (by rw [List.length_take]; omega)
        obtain ⟨k, hk⟩ : ∃ k, k = ((sets.take m).filter (timely vs)).length := ⟨_, rfl⟩
        have HKK := hide hk
        rw [← hk] at hlen
        have HTL : Hid (timely vs (r1, r2, r3) = (decide (v < 1099511627776) && (decide (r2 = -1) || decide (r2 = v)))) := hide (by rw [HV.out]; rfl)
        have hszr := F.size
        clear hc hrm hv own F hk
        have hyes : Hid (∀ w1, Fr no (wr.alloc (.cells #[.int .i64 r1, .int .i64 r2, .int .i64 r3] 108)) w1 → w1.cell? ⟨wr.heap.size, 0, none⟩ = some (.int .i64 r1) ∧ w1.cell? ⟨wr.heap.size, 1, none⟩ = some (.int .i64 r2) ∧ w1.cell? ⟨wr.heap.size, 2, none⟩ = some (.int .i64 r3)) := hide (fun w1 F5 =>
          ⟨((Blk.new wr 108 #[.int .i64 r1, .int .i64 r2, .int .i64 r3]).kept0 F5).cell 0, ((Blk.new wr 108 #[.int .i64 r1, .int .i64 r2, .int .i64 r3]).kept0 F5).cell 1, ((Blk.new wr 108 #[.int .i64 r1, .int .i64 r2, .int .i64 r3]).kept0 F5).cell 2⟩)
        by_cases t1 : v < 1099511627776
        · have t5 : decide (v < 1099511627776) = true := by simp; exact t1
          by_cases t2 : r2 = -1
          · have HY : Hid (timely vs (r1, r2, r3) = true) := hide (by rw [HTL.out]; simp [t1, t2])
            have t4 : decide (r2 = -1) = true := by simp; exact t2
            have t6 : (r2 == -1) = true := by simp; exact t2
            clear t2
            have hTK : Hid ((sets.take (m + 1)).filter (timely vs) = (sets.take m).filter (timely vs) ++ [(r1, r2, r3)]) := hide (by rw [HT.out, List.filter_append, List.filter_cons_of_pos (by rw [HY.out])]; simp)
            gi_wp2_with (first
              | (gi_at_call 91; refine (callsIn_wide.2 (HC.out _ ((Fr.refl no wr).alloc _))).mono ?_; rintro e w1 ⟨rfl, F5⟩; obtain ⟨y0, y1, y2⟩ := hyes.out _ F5; have F6 := hide ((HF.out.alloc _).trans F5); have O6 := hide (own_kept (own_kept HOW.out ((Fr.refl no wr).alloc _)) F5); clear F5)
              | (gi_at_builtin; refine wpListIn_append_one _ rfl _ _ 82 rfl W.heap.size 108 i0' (.agg #[.int .i64 0, .int .i64 0, .int .i64 0]) 3 24 Tryz.underlying82 hi hz0 hz1 hz2 rfl (by decide) (by decide) _ k _ rfl (HKK.out ▸ own_kept O6.out ((Fr.refl no _).alloc _)) _ 1 [.int .i64 r1, .int .i64 r2, .int .i64 r3] rfl rfl (new_cells _ _ _) (fun u hu => by simp at hu; rcases hu with rfl | rfl | rfl <;> rfl) (by simp only [maxLen]; omega) (by omega) (by have := F6.out.size; simp; omega) ?_; intro v' w2 own2 grow2; have HOB := hide (own_base O6.out); have HO2 := hide own2; have HF2 := hide ((F6.out.alloc _).thru (Fr.of_grown grow2) (fun i hi e => by have := HOB.out i e; omega)); clear own2 grow2))
            go_roundw
            case rel => rw [← hsA, ← hsn]; repeat apply Exists.intro
                        refine ⟨?_, rfl⟩; exact ⟨m + 1, by go_num, by omega, HF2.out, by rw [hTK.out, List.length_append, Flat.all_append, ← HKK.out]; exact HO2.out⟩
            case measure => simp [intOf]; omega
          by_cases t3 : r2 = v
          · have HY : Hid (timely vs (r1, r2, r3) = true) := hide (by rw [HTL.out]; simp [t1, t3])
            have t4 : decide (r2 = v) = true := by simp; exact t3
            have t6 : (r2 == -1) = false := by simp; exact t2
            have t7 : (r2 == v) = true := by simp; exact t3
            clear t3
            have hTK : Hid ((sets.take (m + 1)).filter (timely vs) = (sets.take m).filter (timely vs) ++ [(r1, r2, r3)]) := hide (by rw [HT.out, List.filter_append, List.filter_cons_of_pos (by rw [HY.out])]; simp)
            gi_wp2_with (first
              | (gi_at_call 91; refine (callsIn_wide.2 (HC.out _ ((Fr.refl no wr).alloc _))).mono ?_; rintro e w1 ⟨rfl, F5⟩; obtain ⟨y0, y1, y2⟩ := hyes.out _ F5; have F6 := hide ((HF.out.alloc _).trans F5); have O6 := hide (own_kept (own_kept HOW.out ((Fr.refl no wr).alloc _)) F5); clear F5)
              | (gi_at_builtin; refine wpListIn_append_one _ rfl _ _ 82 rfl W.heap.size 108 i0' (.agg #[.int .i64 0, .int .i64 0, .int .i64 0]) 3 24 Tryz.underlying82 hi hz0 hz1 hz2 rfl (by decide) (by decide) _ k _ rfl (HKK.out ▸ own_kept O6.out ((Fr.refl no _).alloc _)) _ 1 [.int .i64 r1, .int .i64 r2, .int .i64 r3] rfl rfl (new_cells _ _ _) (fun u hu => by simp at hu; rcases hu with rfl | rfl | rfl <;> rfl) (by simp only [maxLen]; omega) (by omega) (by have := F6.out.size; simp; omega) ?_; intro v' w2 own2 grow2; have HOB := hide (own_base O6.out); have HO2 := hide own2; have HF2 := hide ((F6.out.alloc _).thru (Fr.of_grown grow2) (fun i hi e => by have := HOB.out i e; omega)); clear own2 grow2))
            go_roundw
            case rel => rw [← hsA, ← hsn]; repeat apply Exists.intro
                        refine ⟨?_, rfl⟩; exact ⟨m + 1, by go_num, by omega, HF2.out, by rw [hTK.out, List.length_append, Flat.all_append, ← HKK.out]; exact HO2.out⟩
            case measure => simp [intOf]; omega
          · have HY : Hid (timely vs (r1, r2, r3) = false) := hide (by rw [HTL.out]; simp [t2, t3])
            have t4 : decide (r2 = v) = false := by simp; exact t3
            have t6 : (r2 == -1) = false := by simp; exact t2
            have t7 : (r2 == v) = false := by simp; exact t3
            have hTK : Hid ((sets.take (m + 1)).filter (timely vs) = (sets.take m).filter (timely vs)) := hide (by rw [HT.out, List.filter_append, List.filter_cons_of_neg (by rw [HY.out]; decide)]; simp)
            gi_wp2_with (first
              | (gi_at_call 91; refine (callsIn_wide.2 (HC.out _ ((Fr.refl no wr).alloc _))).mono ?_; rintro e w1 ⟨rfl, F5⟩; obtain ⟨y0, y1, y2⟩ := hyes.out _ F5; have F6 := hide ((HF.out.alloc _).trans F5); have O6 := hide (own_kept (own_kept HOW.out ((Fr.refl no wr).alloc _)) F5); clear F5))
            go_roundw
            case rel => rw [← hsA, ← hsn]; repeat apply Exists.intro
                        refine ⟨?_, rfl⟩; exact ⟨m + 1, by go_num, by omega, F6.out, by rw [hTK.out]; exact O6.out⟩
            case measure => simp [intOf]; omega
        · have HY : Hid (timely vs (r1, r2, r3) = false) := hide (by rw [HTL.out]; simp; omega)
          have t5 : decide (v < 1099511627776) = false := by simp; omega
          have hTK : Hid ((sets.take (m + 1)).filter (timely vs) = (sets.take m).filter (timely vs)) := hide (by rw [HT.out, List.filter_append, List.filter_cons_of_neg (by rw [HY.out]; decide)]; simp)
          gi_wp2_with (first
            | (gi_at_call 91; refine (callsIn_wide.2 (HC.out _ ((Fr.refl no wr).alloc _))).mono ?_; rintro e w1 ⟨rfl, F5⟩; obtain ⟨y0, y1, y2⟩ := hyes.out _ F5; have F6 := hide ((HF.out.alloc _).trans F5); have O6 := hide (own_kept (own_kept HOW.out ((Fr.refl no wr).alloc _)) F5); clear F5))
          go_roundw
          case rel => rw [← hsA, ← hsn]; repeat apply Exists.intro
                      refine ⟨?_, rfl⟩; exact ⟨m + 1, by go_num, by omega, F6.out, by rw [hTK.out]; exact O6.out⟩
          case measure => simp [intOf]; omega
      · obtain rfl : m = sets.length := by omega
        rw [List.take_of_length_le (Nat.le_refl _)] at own
        obtain ⟨A2, c2, rfl, hs2⟩ := own_sl fSet (xs := sets.filter (timely vs)) own
        have HF := hide F
        have HLR := hide (show w.heap.size ≤ wr.heap.size from (FW.out.trans F).size)
        have HS2 := hide hs2
        have HV := HBV.out.kept0 F
        have HB := B0.out.kept0 F
        have d0 := HV.cell 0
        have b0 := HB.cell 0
        have b1 := HB.cell 1
        have b2 := HB.cell 2
        have b3 := HB.cell 3
        have b4 := HB.cell 4
        have b5 := HB.cell 5
        simp at d0 b0 b1 b2 b3 b4 b5
        have hfl : (sets.filter (timely vs)).length ≤ sets.length := List.length_filter_le _ _
        have HC : Hid (∀ W', Fr no wr W' → Calls Tryz.prog 192 #[.agg #[.int .u64 s.q, .slice s.P s.np s.cp, .slice s.R s.nr s.cr, .slice s.L s.nl s.cl, .slice s.G s.ng s.cg, .slice s.O s.no s.co], .slice A2 (sets.filter (timely vs)).length c2] W' fun e w' => ∃ A' c', e = .returned (.slice A' (clampSets vs sets).length c') ∧ Om fSet 108 W'.heap.size w' A' c' (clampSets vs sets) ∧ Fr no W' w') := hide (fun W' F' => by
          have q := renewed_c s vs HNV.out A2 c2 (sets.filter (timely vs)) (by omega) W' (HQ.out W' ((FW.out.trans F).trans F')).2.1 (HS2.out.below F'.below)
          exact q.mono (fun e w' h => by obtain ⟨A', c', h1, h2, h3⟩ := h; exact ⟨A', c', by rw [h1]; simp [clampSets], h2, h3⟩))
        have hfl2 : (sets.filter (timely vs)).length = (sets.filter (timely vs)).length := rfl
        obtain ⟨kk, hkk⟩ : ∃ kk, kk = (sets.filter (timely vs)).length := ⟨_, rfl⟩
        rw [← hkk] at HC ⊢
        have HD : Hid (∀ W', Fr no wr W' → W'.cell? ⟨w.heap.size + 1 + 1 + 1 + 1 + 1 + 1 + 1, 0, none⟩ = some ((.slice vA (clampMade ps xs).length vc))) := hide (fun W' F' => (HV.kept0 F').cell 0)
        clear own F hs2 HV HB hfl hfl2 hkk
        gi_wp2_with fail
        have HKR : Hid (∀ W', Fr no wr W' → W'.heap[D]? = some (.deferred (some []))) := hide (fun W' F' => by
          have q := (HF.out.block D hDW (fun e => e)).trans HKD.out
          exact (F'.block D (Array.getElem?_eq_some_iff.1 q).1 (fun e => e)).trans q)
        have HDW := hide hDW
        first | (gi_region_with (gi_at_call 192; refine (callsIn_wide.2 (HC.out _ (Fr.refl _ _).drew)).mono ?_; rintro e w1 ⟨A3, c3, rfl, hs3, F3⟩; have HS3 := hide hs3; have HF3 := hide (((Fr.refl _ wr).drew).trans F3); clear hs3 F3; have d1 := HD.out _ HF3.out)) | fail
        all_goals
          gi_wp2_with fail
          have hD2 := HKR.out _ HF3.out
          refine ⟨by simp, .inl ⟨_, _, rfl, run_takeDeferred hD2, ?_⟩⟩
          refine ⟨_, results_tmp2 rfl _ _ _, vA, vc, A3, c3, rfl, ((HSL.out.below (HF.out.trans HF3.out).below).put hD2 _).down HLO.out, (HS3.out.put hD2 _).down HLR.out, (FW.out.trans (HF.out.trans HF3.out)).thru (Fr.put _ D _) (fun i hi e => by have := hdw.out; omega)⟩
  case stop =>
    rintro D c pre W _ _ h _
    exact h.elim
end Go.Proofs.YtmnajpkmglmipaaGreat
