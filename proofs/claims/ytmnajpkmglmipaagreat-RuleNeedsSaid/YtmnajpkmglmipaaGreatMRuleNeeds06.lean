/- AppN BookM RuleD RuleE -/
import Derived.Test.YtmnajpkmglmipaaGreatMRuleNeeds05
/- append of one element to a slice that the call owns: where the new slice lies. -/
namespace Go.Proofs.YtmnajpkmglmipaaGreat
open Go.RowKit

theorem own_lower {w : World} {b b' size n : Nat} {e : TypeId} {v : Value} {xs : List Value} (h : w.ownsRow b e size v n xs) (hb : b' ≤ b) : w.ownsRow b' e size v n xs := by
  refine ⟨h.1, ?_⟩
  rcases h.2 with h | ⟨g, cap, cur, h1, h2, h3⟩
  · exact .inl h
  · exact .inr ⟨g, cap, cur, h1, Nat.le_trans hb h2, h3⟩
/-- Where it lies. -/
def NewAt (w : World) (v : Value) (g : Nat) : Prop := v.ownBlock = some g ∨ w.heap.size ≤ g
theorem run_append_new {P : Program} (w : World) (base : Nat) (t ty e : TypeId) (i : TypeInfo) (z : Value) (size bytes : Nat) (ht : P.underlying t = some (.slice e)) (hi : P.info? e = some i) (hz : i.zero = some z)
    (hsize : i.size = size) (hby : i.bytes = bytes) (hzs : z.cells.size = size) (hsz : 0 < size)
    (v : Value) (k : Nat) (xs : List Value) (hown : w.ownsRow base e size v k xs) (ad : Addr) (c : Nat) (news : List Value) (hl : news.length = size) (hnews : ∀ j u, news[j]? = some u → w.cell? (ad.add j) = some u) (h1 : ∀ u ∈ news, u.oneCell' = true)
    (h63 : k + 1 ≤ maxLen) (hbytes : (k + 1) * bytes ≤ 140737488355328) (hbase : base ≤ w.heap.size) :
    ∃ g' c' w', (Builtin.append_ #[t, t] ty #[v, .slice (some ad) 1 c]).run P w = .ok (.slice (some ⟨g', 0, none⟩) (k + 1) c') w' ∧ w'.ownsRow base e size (.slice (some ⟨g', 0, none⟩) (k + 1) c') (k + 1) (xs ++ news) ∧ w.grownBy w' v.ownBlock ∧ NewAt w v g' := by
  have hl1 : news.length = 1 * size := by rw [Nat.one_mul]; exact hl
  rcases hown.2 with ⟨rfl, rfl⟩ | ⟨g, cap, cur, rfl, hbg, hg, hnc, hcm, hcs, htake⟩
  · have hx : xs = [] := List.eq_nil_of_length_eq_zero (by simpa using hown.1)
    subst hx
    obtain ⟨v', w', hr, ho, hgr, hv⟩ := run_append_own (P := P) w w.heap.size t ty e i z size bytes ht hi hz hsize hby hzs hsz _ 0 [] (World.ownsRow_nil w w.heap.size e size) ad 1 c news hl1 hnews h1 h63 hbytes (Nat.le_refl _)
    rcases ho.2 with ⟨_, hn⟩ | ⟨g', cap', cur', rfl, h2, h3⟩
    · omega
    · exact ⟨g', cap', w', hr, own_lower ho hbase, hgr, .inr h2⟩
  · by_cases hroom : k + 1 ≤ cap
    · obtain ⟨w', hr, ho, hgr⟩ := run_append_fits (P := P) w base t ty e i size ht hi hsize g k cap xs hown ad 1 c news hl1 hnews h1 hroom
      exact ⟨g, cap, w', hr, ho, hgr, .inl rfl⟩
    · have hlen : (xs ++ news).length = (k + 1) * size := by rw [List.length_append, hown.1, hl, Nat.add_mul, Nat.one_mul]
      subst hsize
      subst hby
      have hr := run_append_grow (P := P) w t ty e i z ht hi hz ⟨g, 0, none⟩ k cap xs hown.1 (hown.cells (g := g) rfl) ad 1 c news hl1 hnews (by omega) (by simp only [maxLen] at h63; omega) (growslice_fits (by omega) hbytes)
      have hge := grownCap_ge w (k + 1) cap e
      refine ⟨_, _, _, hr, ⟨hlen, .inr ⟨w.heap.size, _, _, rfl, hbase, heap_alloc_new w.drew _, hge, grownCap_le_maxLen w (k + 1) cap e h63, ?_, ?_⟩⟩, ⟨rfl, rfl, rfl, by simp, fun j hj _ => heap_alloc_old w.drew _ hj⟩, .inr (Nat.le_refl _)⟩
      · simp only [Array.size_append, List.size_toArray, size_zeroCells, hzs, hown.1, hl]
        rw [Nat.sub_mul, Nat.add_mul, Nat.one_mul]
        have := Nat.mul_le_mul_right i.size hge
        rw [Nat.add_mul, Nat.one_mul] at this
        omega
      · simp only [Array.toList_append, List.append_assoc]
        rw [← List.append_assoc, ← hlen]
        exact List.take_left
theorem wpList_append_new {P : Program} (w : World) {ops : Array Oper} {rest : List Oper} {o : Oper} {a : Act} {Q : Exit → Act → World → Prop}
    (hg : o.guard = none) (s x : Operand) (t : TypeId) (hop : o.op = Op.call { callee := Callee.builtin Builtin.append, args := #[s, x], argTypes := #[t, t] })
    (base : Nat) (e : TypeId) (i : TypeInfo) (z : Value) (size bytes : Nat) (h1 : P.underlying t = some (.slice e)) (h2 : P.info? e = some i) (h3 : i.zero = some z) (h4 : i.size = size) (h5 : i.bytes = bytes) (h6 : z.cells.size = size) (h7 : 0 < size)
    (v : Value) (k : Nat) (xs : List Value) (hs : a.eval s = v) (hown : w.ownsRow base e size v k xs) (ad : Addr) (c : Nat) (news : List Value) (hx : a.eval x = .slice (some ad) 1 c) (hn : news.length = size)
    (hc : ∀ j u, news[j]? = some u → w.cell? (ad.add j) = some u) (h1c : ∀ u ∈ news, u.oneCell' = true) (b1 : k + 1 ≤ maxLen) (b2 : (k + 1) * bytes ≤ 140737488355328) (b3 : base ≤ w.heap.size)
    (hK : ∀ g' c' w', w'.ownsRow base e size (.slice (some ⟨g', 0, none⟩) (k + 1) c') (k + 1) (xs ++ news) → w.grownBy w' v.ownBlock → NewAt w v g' → wpList P ops Q rest (a.put o.dst (.slice (some ⟨g', 0, none⟩) (k + 1) c')) w') :
    wpList P ops Q (o :: rest) a w := by
  refine wpList_plain hg fun K hK' => ?_
  obtain ⟨g', c', w', hrun, r1, r2, r3⟩ := run_append_new (P := P) w base t o.type e i z size bytes h1 h2 h3 h4 h5 h6 h7 v k xs hown ad c news hn hc h1c b1 b2 b3
  unfold Oper.wp
  simp [execOp, hop, resolve, invoke, builtin, hs, hx, hrun, Result.andThen]
  exact hK' _ _ (hK g' c' w' r1 r2 r3)
end Go.Proofs.YtmnajpkmglmipaaGreat

/- The law's book: what a taking keeps, in plain Lean. -/
namespace Go.Proofs.YtmnajpkmglmipaaGreat
open Go.RowKit

theorem opt_blk {a : Addr} {X : Option Addr} (h : ∀ a', X = some a' → a.block ≠ a'.block) : some a.block ≠ X.map (·.block) := by
  cases X with
  | none => simp
  | some x => intro e; exact h x rfl (by simpa using e)
theorem Flat.snoc {α : Type} (f : Flat α) (xs : List α) (x : α) : f.all (xs ++ [x]) = f.all xs ++ f.enc x := by
  induction xs with
  | nil => simp [f.all_cons, Flat.all]
  | cons y ys ih => rw [List.cons_append, f.all_cons, f.all_cons, ih, List.append_assoc]
theorem KeptOk.off {α : Type} {f : Flat α} {T TT TI T1 T2 TB : TypeId} {mk : Int → α} {base s1 s2 n1 n2 c1 c2 B b1 b2 : Nat} {W W' : World} {k : KeptV} {A1 A2 : Option Addr} {xs ys : List Value} {cs : Array Value}
    (h : KeptOk f T TT TI mk base W k) (o1 : W.ownsRow b1 T1 s1 (.slice A1 n1 c1) n1 xs) (o2 : W.ownsRow b2 T2 s2 (.slice A2 n2 c2) n2 ys) (hB : Blk W B TB cs) (hD : Dif k.OA A2)
    (d1 : T ≠ T1) (d2 : TT ≠ T1) (d3 : TI ≠ T1) (d4 : T ≠ T2) (d5 : TT ≠ T2) (m1 : T ≠ TB) (m2 : TT ≠ TB) (m3 : TI ≠ TB)
    (F : Fr (fun k => k = B ∨ some k = A1.map (·.block) ∨ some k = A2.map (·.block)) W W') : KeptOk f T TT TI mk base W' k := by
  refine h.but F ?_ ?_ ?_
  · rintro a ha (e | e | e)
    · exact own_blkv h.outer hB m2 a ha e
    · exact opt_blk (fun a' ha' => own_typev h.outer o1 d2 a a' ha ha') e
    · exact opt_blk (fun a' ha' => own_typev h.outer o2 d5 a a' ha ha') e
  · rintro a ha (e | e | e)
    · exact own_blkv h.of hB m3 a ha e
    · exact opt_blk (fun a' ha' => own_typev h.of o1 d3 a a' ha ha') e
    · exact opt_blk (fun a' ha' => hD a a' ha ha') e
  · rintro x hx a ha (e | e | e)
    · exact own_blkv (h.ent x hx) hB m1 a ha e
    · exact opt_blk (fun a' ha' => own_typev (h.ent x hx) o1 d1 a a' ha ha') e
    · exact opt_blk (fun a' ha' => own_typev (h.ent x hx) o2 d4 a a' ha ha') e
/-- A list was written, that no kept one lies in. -/
theorem KeptOk.own_new {α : Type} {f : Flat α} {T TT TI TB : TypeId} {mk : Int → α} {base base' s n c B : Nat} {W W' : World} {k : KeptV} {A : Option Addr} {xs : List Value} {cs : Array Value}
    (h : KeptOk f T TT TI mk base W k) (om : W.ownsRow base' T s (.slice A n c) n xs) (hB : Blk W B TB cs) (hnew : ∀ e ∈ k.es, blkOf e = none ∨ blkOf e ≠ A.map (·.block))
    (d2 : TT ≠ T) (d3 : TI ≠ T) (m1 : T ≠ TB) (m2 : TT ≠ TB) (m3 : TI ≠ TB)
    (F : Fr (fun k => k = B ∨ some k = A.map (·.block)) W W') : KeptOk f T TT TI mk base W' k := by
  refine h.but F ?_ ?_ ?_
  · rintro a ha (e | e)
    · exact own_blkv h.outer hB m2 a ha e
    · exact opt_blk (fun a' ha' => own_typev h.outer om d2 a a' ha ha') e
  · rintro a ha (e | e)
    · exact own_blkv h.of hB m3 a ha e
    · exact opt_blk (fun a' ha' => own_typev h.of om d3 a a' ha ha') e
  · rintro x hx a ha (e | e)
    · exact own_blkv (h.ent x hx) hB m1 a ha e
    · rcases hnew x hx with h0 | h0
      · rw [blkOf, ha] at h0; cases h0
      · exact h0 (by rw [blkOf, ha]; exact e)
/-- A list is kept. -/
def KeptV.add (k : KeptV) (g1 c1 g2 c2 : Nat) (x : KEntry) : KeptV := ⟨some ⟨g1, 0, Option.none⟩, c1, some ⟨g2, 0, Option.none⟩, c2, k.at', k.es ++ [x], k.t + 1⟩
theorem KeptOk.added {α : Type} {f : Flat α} {T TT TI TB : TypeId} {mk : Int → α} {base B g1 c1 g2 c2 n c : Nat} {W W' : World} {k : KeptV} {A : Option Addr} {mm : Int} {cs : Array Value}
    (h : KeptOk f T TT TI mk base W k) (om : W.ownsRow base T f.sz (.slice A n c) n (f.all (List.replicate n (mk mm)))) (hB : Blk W B TB cs) (hnew : ∀ e ∈ k.es, blkOf e = none ∨ blkOf e ≠ A.map (·.block))
    (d2 : TT ≠ T) (d3 : TI ≠ T) (m1 : T ≠ TB)
    (F : Fr (fun i => i = B ∨ some i = k.A.map (·.block) ∨ some i = k.OA.map (·.block)) W W') (hn : n ≤ 60000)
    (o1 : W'.ownsRow base TT 1 (.slice (some ⟨g1, 0, none⟩) (k.es.length + 1) c1) (k.es.length + 1) (fHdr.all (k.es.map (·.1)) ++ [.slice A n c]))
    (o2 : W'.ownsRow base TI 1 (.slice (some ⟨g2, 0, none⟩) (k.es.length + 1) c2) (k.es.length + 1) (fInt.all (k.es.map (·.2)) ++ [.int .i64 mm])) :
    KeptOk f T TT TI mk base W' (k.add g1 c1 g2 c2 ((A, n, c), mm)) := by
  have hl : (k.es ++ [(((A, n, c), mm) : KEntry)]).length = k.es.length + 1 := by simp
  have keep : ∀ (n' c' : Nat) (A' : Option Addr) (xs : List Value), W.ownsRow base T f.sz (.slice A' n' c') n' xs → W'.ownsRow base T f.sz (.slice A' n' c') n' xs := by
    intro n' c' A' xs ho
    refine own_butv ho F ?_
    rintro a ha (e | e | e)
    · exact own_blkv ho hB m1 a ha e
    · exact opt_blk (fun a' ha' => own_typev ho h.outer d2.symm a a' ha ha') e
    · exact opt_blk (fun a' ha' => own_typev ho h.of d3.symm a a' ha ha') e
  refine ⟨?_, ?_, ?_, ?_, ?_, ?_, ?_⟩
  · show W'.ownsRow base TT 1 (.slice (some ⟨g1, 0, none⟩) (k.es ++ [((A, n, c), mm)]).length c1) (k.es ++ [((A, n, c), mm)]).length (fHdr.all ((k.es ++ [((A, n, c), mm)]).map (·.1)))
    rw [hl, List.map_append, List.map_cons, List.map_nil, fHdr.snoc]
    exact o1
  · show W'.ownsRow base TI 1 (.slice (some ⟨g2, 0, none⟩) (k.es ++ [((A, n, c), mm)]).length c2) (k.es ++ [((A, n, c), mm)]).length (fInt.all ((k.es ++ [((A, n, c), mm)]).map (·.2)))
    rw [hl, List.map_append, List.map_cons, List.map_nil, fInt.snoc]
    exact o2
  · intro e he
    rcases List.mem_append.1 he with he | he
    · exact keep _ _ _ _ (h.ent e he)
    · rw [List.mem_singleton] at he
      subst he
      exact keep _ _ _ _ om
  · show k.at' ≤ (k.es ++ [((A, n, c), mm)]).length
    have := h.at_le
    omega
  · show ∀ i j (hi : i < (k.es ++ [(((A, n, c), mm) : KEntry)]).length) (hj : j < (k.es ++ [(((A, n, c), mm) : KEntry)]).length), k.at' ≤ j → i ≠ j → blkOf (k.es ++ [(((A, n, c), mm) : KEntry)])[j] = none ∨ blkOf (k.es ++ [(((A, n, c), mm) : KEntry)])[i] ≠ blkOf (k.es ++ [(((A, n, c), mm) : KEntry)])[j]
    intro i j hi hj hat hij
    rw [hl] at hi hj
    by_cases h1 : i < k.es.length
    · by_cases h2 : j < k.es.length
      · rw [List.getElem_append_left h1, List.getElem_append_left h2]
        exact h.apart i j h1 h2 hat hij
      · obtain rfl : j = k.es.length := by omega
        rw [List.getElem_append_left h1, List.getElem_concat_length rfl]
        show A.map (·.block) = none ∨ blkOf k.es[i] ≠ A.map (·.block)
        rcases hnew _ (List.getElem_mem h1) with h0 | h0
        · cases A with
          | none => exact .inl rfl
          | some a => right; rw [h0]; simp
        · exact .inr h0
    · obtain rfl : i = k.es.length := by omega
      have h2 : j < k.es.length := by omega
      rw [List.getElem_append_left h2, List.getElem_concat_length rfl]
      rcases hnew _ (List.getElem_mem h2) with h0 | h0
      · exact .inl h0
      · exact .inr (fun e => h0 e.symm)
  · show (k.es ++ [((A, n, c), mm)]).length + 5 * ((k.es ++ [((A, n, c), mm)]).length - k.at') ≤ 6 * (k.t + 1)
    have := h.few
    have := h.at_le
    omega
  · show ∀ i (hi : i < (k.es ++ [(((A, n, c), mm) : KEntry)]).length), (k.es ++ [(((A, n, c), mm) : KEntry)])[i].1.2.1 ≤ 60032 ∧ (k.at' ≤ i → (k.es ++ [(((A, n, c), mm) : KEntry)])[i].1.2.1 ≤ 60000)
    intro i hi
    rw [hl] at hi
    by_cases h1 : i < k.es.length
    · rw [List.getElem_append_left h1]
      exact h.short i h1
    · obtain rfl : i = k.es.length := by omega
      rw [List.getElem_concat_length rfl]
      show n ≤ 60032 ∧ (_ → n ≤ 60000)
      exact ⟨by omega, fun _ => hn⟩
/-- A new row of numbers lies apart. -/
theorem Dif.new {W : World} {X Y : Option Addr} {g b n c : Nat} {T : TypeId} {xs : List Value} (h : Dif X Y) (o : W.ownsRow b T 1 (.slice X n c) n xs) (hg : Y.map (·.block) = some g ∨ W.heap.size ≤ g) : Dif X (some ⟨g, 0, none⟩) := by
  rintro a a' ha ha'
  cases ha'
  show a.block ≠ g
  rcases hg with hg | hg
  · cases Y with
    | none => cases hg
    | some y =>
      have := h a y ha rfl
      simp at hg
      rwa [hg] at this
  · subst ha
    have := (o.lt a.block rfl).2
    omega
theorem newAt_opt {W : World} {A : Option Addr} {n c g : Nat} (h : NewAt W (.slice A n c) g) : A.map (·.block) = some g ∨ W.heap.size ≤ g := by
  rcases h with h | h
  · left
    cases A with
    | none => cases h
    | some a => exact h
  · exact .inr h
theorem own_opt (A : Option Addr) (n c : Nat) : (Value.slice A n c).ownBlock = A.map (·.block) := by cases A <;> rfl
theorem Dif.comm {X Y : Option Addr} (h : Dif X Y) : Dif Y X := fun a a' ha ha' e => h a' a ha' ha e.symm
end Go.Proofs.YtmnajpkmglmipaaGreat

/- Contracts of package rule: guards, open settings. -/
namespace Go.Proofs.YtmnajpkmglmipaaGreat
open Go.RowKit

/-- Does a guard hold? -/
def guardD (ps : List PoolD) (vs : List PricedD) (g : GuardD) : Bool :=
  if g.1 = 4 then decide (versionD vs g.2.1 = g.2.2) else if g.2.1 < 0 then false else match ps[g.2.1.toNat]? with
  | none => false
  | some p => if g.1 = 1 then decide (g.2.2 ≤ p.1) else if g.1 = 2 then decide (p.1 ≤ g.2.2) else decide (p.1 = g.2.2)
set_option maxRecDepth 100000 in
set_option maxHeartbeats 1000000 in
theorem holds_c (s : StV) (ps : List PoolD) (vs : List PricedD) (hn : s.np = ps.length) (hr : s.nr = vs.length) (k p n : Int) (w : World) (h : kPool.Row w s.P s.cp ps) (h' : Sl fPriced w s.R s.cr vs) :
    Calls Tryz.prog 79 #[.agg #[.int .u64 s.q, .slice s.P s.np s.cp, .slice s.R s.nr s.cr, .slice s.L s.nl s.cl, .slice s.G s.ng s.cg, .slice s.O s.no s.co], .agg #[.int .i64 k, .int .i64 p, .int .i64 n]] w fun e w' => e = .returned (.bool (guardD ps vs (k, p, n))) ∧ Fr no w w' := by
  have hle := h.1
  have htop := h.2.1
  simp only [maxLen] at htop
  by_cases hk : k = 4
  · subst hk
    obtain ⟨v, hv⟩ : ∃ v, v = versionD vs p := ⟨_, rfl⟩
    rw [show guardD ps vs (4, p, n) = decide (v = n) by rw [hv]; rfl]
    have HC : Hid (∀ W, Fr no w W → Calls Tryz.prog 91 #[.agg #[.int .u64 s.q, .slice s.P s.np s.cp, .slice s.R s.nr s.cr, .slice s.L s.nl s.cl, .slice s.G s.ng s.cg, .slice s.O s.no s.co], .int .i64 p] W fun e w' => e = .returned (.int .i64 v) ∧ Fr no W w') := hide (fun W F => by
      rw [hv]; exact version_c s vs hr p W (h'.below F.below))
    clear hv h h' hn hr
    go_enter Tryz.func79, Tryz.ntmps79
    go_wp2_with fail
    have HB := hide ((Blk.new w 77 #[.int .u64 s.q, .slice s.P s.np s.cp, .slice s.R s.nr s.cr, .slice s.L s.nl s.cl, .slice s.G s.ng s.cg, .slice s.O s.no s.co]).alloc (.cells #[.int .i64 4, .int .i64 p, .int .i64 n] 105))
    have HG := hide (show Blk ((w.alloc (.cells #[.int .u64 s.q, .slice s.P s.np s.cp, .slice s.R s.nr s.cr, .slice s.L s.nl s.cl, .slice s.G s.ng s.cg, .slice s.O s.no s.co] 77)).alloc (.cells #[.int .i64 4, .int .i64 p, .int .i64 n] 105)) (w.heap.size + 1) 105 #[.int .i64 4, .int .i64 p, .int .i64 n] by have := Blk.new (w.alloc (.cells #[.int .u64 s.q, .slice s.P s.np s.cp, .slice s.R s.nr s.cr, .slice s.L s.nl s.cl, .slice s.G s.ng s.cg, .slice s.O s.no s.co] 77)) 105 #[.int .i64 4, .int .i64 p, .int .i64 n]; rwa [World.size_alloc] at this)
    have HF := hide (show Fr no w ((w.alloc (.cells #[.int .u64 s.q, .slice s.P s.np s.cp, .slice s.R s.nr s.cr, .slice s.L s.nl s.cl, .slice s.G s.ng s.cg, .slice s.O s.no s.co] 77)).alloc (.cells #[.int .i64 4, .int .i64 p, .int .i64 n] 105)) from ((Fr.refl no w).alloc _).alloc _)
    generalize (w.alloc (.cells #[.int .u64 s.q, .slice s.P s.np s.cp, .slice s.R s.nr s.cr, .slice s.L s.nl s.cl, .slice s.G s.ng s.cg, .slice s.O s.no s.co] 77)).alloc (.cells #[.int .i64 4, .int .i64 p, .int .i64 n] 105) = W0 at *
    generalize w.heap.size = g at *
    have HK : Hid (∀ W', Fr no W0 W' → W'.cell? ⟨g, 0, none⟩ = some (.int .u64 s.q) ∧ W'.cell? ⟨g, 1, none⟩ = some (.slice s.P s.np s.cp) ∧ W'.cell? ⟨g, 2, none⟩ = some (.slice s.R s.nr s.cr) ∧ W'.cell? ⟨g, 3, none⟩ = some (.slice s.L s.nl s.cl) ∧ W'.cell? ⟨g, 4, none⟩ = some (.slice s.G s.ng s.cg) ∧ W'.cell? ⟨g, 5, none⟩ = some (.slice s.O s.no s.co) ∧ W'.cell? ⟨g + 1, 1, none⟩ = some (.int .i64 p) ∧ W'.cell? ⟨g + 1, 2, none⟩ = some (.int .i64 n) ∧ Fr no W0 W') :=
      hide (fun W' F' => ⟨(HB.out.kept0 F').cell 0, (HB.out.kept0 F').cell 1, (HB.out.kept0 F').cell 2, (HB.out.kept0 F').cell 3, (HB.out.kept0 F').cell 4, (HB.out.kept0 F').cell 5, (HG.out.kept0 F').cell 1, (HG.out.kept0 F').cell 2, F'⟩)
    go_region_held3 (fun W' => W'.cell? ⟨g, 0, none⟩ = some (.int .u64 s.q) ∧ W'.cell? ⟨g, 1, none⟩ = some (.slice s.P s.np s.cp) ∧ W'.cell? ⟨g, 2, none⟩ = some (.slice s.R s.nr s.cr) ∧ W'.cell? ⟨g, 3, none⟩ = some (.slice s.L s.nl s.cl) ∧ W'.cell? ⟨g, 4, none⟩ = some (.slice s.G s.ng s.cg) ∧ W'.cell? ⟨g, 5, none⟩ = some (.slice s.O s.no s.co) ∧ W'.cell? ⟨g + 1, 1, none⟩ = some (.int .i64 p) ∧ W'.cell? ⟨g + 1, 2, none⟩ = some (.int .i64 n) ∧ Fr no W0 W')
      (first | exact HK.out _ (Fr.refl _ _).drew | exact HK.out _ ‹_›)
      (first
        | (go_at_call 91; refine (HC.out _ (HF.out.trans (by first | exact (Fr.refl _ _).drew | assumption))).mono ?_; rintro e w1 ⟨rfl, F5⟩; have F6 := (show Fr no W0 w1 from (by first | exact ((Fr.refl _ _).drew).trans F5 | exact Fr.trans (by assumption) F5)); clear F5))
    all_goals
      rename_i hH
      have F9 := HF.out.trans hH.2.2.2.2.2.2.2.2
      go_wp2_with fail
      go_ret
      exact ⟨by first | rfl | simp, F9⟩
  · by_cases h0 : p < 0
    · rw [show guardD ps vs (k, p, n) = false by simp [guardD, hk, h0]]
      clear h h'
      go_enter Tryz.func79, Tryz.ntmps79
      go_wp2_with fail
      go_ret
      exact ⟨rfl, ((Fr.refl no w).alloc _).alloc _⟩
    · obtain ⟨m, rfl⟩ : ∃ m : Nat, p = m := ⟨p.toNat, by omega⟩
      by_cases h1 : m < ps.length
      · obtain ⟨g, o, hP, a0, _⟩ := pool_cells h m h1
        have a0' := fun ob ob' => cell_any2 a0 ob ob'
        have i1 : (m : Int) < s.np := by omega
        have i0 : (0 : Int) ≤ m := by omega
        rw [show guardD ps vs (k, (m : Int), n) = if k = 1 then decide (n ≤ ps[m].1) else if k = 2 then decide (ps[m].1 ≤ n) else decide (ps[m].1 = n) by unfold guardD; rw [if_neg hk, if_neg h0]; simp [h1]]
        generalize ps[m].1 = v at *
        clear h h' a0
        by_cases k1 : k = 1
        · subst k1
          go_enter Tryz.func79, Tryz.ntmps79
          go_wp2_with fail
          go_ret
          exact ⟨by first | rfl | simp, ((Fr.refl no w).alloc _).alloc _⟩
        · by_cases k2 : k = 2
          · subst k2
            go_enter Tryz.func79, Tryz.ntmps79
            go_wp2_with fail
            go_ret
            exact ⟨by first | rfl | simp, ((Fr.refl no w).alloc _).alloc _⟩
          · rw [if_neg k1, if_neg k2]
            go_enter Tryz.func79, Tryz.ntmps79
            go_wp2_with fail
            go_ret
            exact ⟨by first | rfl | simp, ((Fr.refl no w).alloc _).alloc _⟩
      · rw [show guardD ps vs (k, (m : Int), n) = false by unfold guardD; rw [if_neg hk, if_neg h0]; simp [h1]]
        have i1 : ¬ (m : Int) < s.np := by omega
        clear h h'
        go_enter Tryz.func79, Tryz.ntmps79
        go_wp2_with fail
        go_ret
        exact ⟨rfl, ((Fr.refl no w).alloc _).alloc _⟩
end Go.Proofs.YtmnajpkmglmipaaGreat

/- Contracts of package rule: guards, open settings; slices.Clone at lines. -/
namespace Go.Proofs.YtmnajpkmglmipaaGreat
open Go.RowKit

theorem done_c (b : Bool) (w : World) : Calls Tryz.prog 139 #[.bool b] w fun e w' => e = .returned (.int .i64 (if b then 5 else 3)) ∧ w' = w := by
  cases b
  · go_enter Tryz.func139, Tryz.ntmps139
    go_wp2_with fail
    go_ret
    exact ⟨rfl, rfl⟩
  · go_enter Tryz.func139, Tryz.ntmps139
    go_wp2_with fail
    go_ret
    exact ⟨rfl, rfl⟩
set_option maxRecDepth 100000 in
set_option maxHeartbeats 1000000 in
theorem Guarded_c (s : StV) (ps : List PoolD) (vs : List PricedD) (hn : s.np = ps.length) (hv : s.nr = vs.length) (A : Option Addr) (c : Nat) (gs : List GuardD) (w : World) (h : kPool.Row w s.P s.cp ps) (h' : Sl fPriced w s.R s.cr vs) (hg : Sl fGuard w A c gs) :
    Calls Tryz.prog 33 #[.agg #[.int .u64 s.q, .slice s.P s.np s.cp, .slice s.R s.nr s.cr, .slice s.L s.nl s.cl, .slice s.G s.ng s.cg, .slice s.O s.no s.co], .slice A gs.length c] w fun e w' => e = .returned (.bool (gs.all (guardD ps vs))) ∧ Fr no w w' := by
  have hle := hg.le
  have htop := hg.top
  simp only [maxLen] at htop
  have HQ : Hid (∀ W, Fr no w W → kPool.Row W s.P s.cp ps ∧ Sl fPriced W s.R s.cr vs ∧ Sl fGuard W A c gs) := hide (fun W F => ⟨h.keep F, h'.below F.below, hg.below F.below⟩)
  have HB0 := hide (Blk.new w 77 #[.int .u64 s.q, .slice s.P s.np s.cp, .slice s.R s.nr s.cr, .slice s.L s.nl s.cl, .slice s.G s.ng s.cg, .slice s.O s.no s.co])
  have HN := hide hn
  have HNV := hide hv
  clear h h' hg hn hv
  go_enter Tryz.func33, Tryz.ntmps33
  go_wp2_with fail
  go_loopw [9] (fun i wr => ∃ m : Nat, i = .int .i64 m ∧ m ≤ gs.length ∧ Fr no w wr ∧ Blk wr w.heap.size 77 #[.int .u64 s.q, .slice s.P s.np s.cp, .slice s.R s.nr s.cr, .slice s.L s.nl s.cl, .slice s.G s.ng s.cg, .slice s.O s.no s.co] ∧ ((gs.take m).all (guardD ps vs)) = true) (fun i _ => gs.length - (intOf i).toNat)
  case atStart => exact ⟨0, rfl, Nat.zero_le _, (Fr.refl no w).alloc _, HB0.out, rfl⟩
  case round =>
    obtain ⟨m, rfl, hm, F, hB, hall⟩ := hrel
    by_cases hlt : m < gs.length
    · obtain ⟨g, o, rfl, hc⟩ := (HQ.out wr F).2.2.cells (List.length_pos_iff.1 (by omega))
      obtain ⟨r1, r2, r3, hrm⟩ : ∃ r1 r2 r3, gs[m] = (r1, r2, r3) := ⟨_, _, _, rfl⟩
      have a0 : wr.cell? ⟨g, o + m * 3, none⟩ = some (.int .i64 r1) := by
        have := hc m hlt 0 (by decide)
        rw [hrm] at this; exact this
      have a1 : wr.cell? ⟨g, o + m * 3 + 1, none⟩ = some (.int .i64 r2) := by
        have := hc m hlt 1 (by decide)
        rw [hrm] at this; exact this
      have a2 : wr.cell? ⟨g, o + m * 3 + 2, none⟩ = some (.int .i64 r3) := by
        have := hc m hlt 2 (by decide)
        rw [hrm] at this; exact this
      have b0 := fun ob => (hB.alloc ob).cell 0
      have b1 := fun ob => (hB.alloc ob).cell 1
      have b2 := fun ob => (hB.alloc ob).cell 2
      have b3 := fun ob => (hB.alloc ob).cell 3
      have b4 := fun ob => (hB.alloc ob).cell 4
      have b5 := fun ob => (hB.alloc ob).cell 5
      simp at b0 b1 b2 b3 b4 b5
      have HB := hide hB
      have HA := hide hall
      have HT := hide (show gs.take (m + 1) = gs.take m ++ [(r1, r2, r3)] by rw [← hrm]; exact (List.take_append_getElem hlt).symm)
      have HM := hide (show (r1, r2, r3) ∈ gs by rw [← hrm]; exact List.getElem_mem hlt)
      have hi0 : (0 : Int) ≤ m := by omega
      have hi1 : (m : Int) < gs.length := by omega
      obtain ⟨v, hv⟩ : ∃ v, v = guardD ps vs (r1, r2, r3) := ⟨_, rfl⟩
      have HV := hide hv
      have HC : Hid (∀ W, Fr no w W → Calls Tryz.prog 79 #[.agg #[.int .u64 s.q, .slice s.P s.np s.cp, .slice s.R s.nr s.cr, .slice s.L s.nl s.cl, .slice s.G s.ng s.cg, .slice s.O s.no s.co], .agg #[.int .i64 r1, .int .i64 r2, .int .i64 r3]] W fun e w' => e = .returned (.bool v) ∧ Fr no W w') := hide (fun W F' => by
        rw [HV.out]; exact holds_c s ps vs HN.out HNV.out r1 r2 r3 W (HQ.out W F').1 (HQ.out W F').2.1)
      have HF := hide F
      clear hc hrm hall hv hB
      cases v
      · go_wp2_with (go_at_call 79; refine (HC.out _ (HF.out.alloc _)).mono ?_; rintro e w1 ⟨rfl, F5⟩)
        have F7 := hide ((HF.out.alloc _).trans F5)
        have B7 := hide ((HB.out.alloc _).kept0 F5)
        go_ret
        refine ⟨?_, F7.out⟩
        rw [show (gs.all (guardD ps vs)) = false from ?_]
        · rfl
        · rw [List.all_eq_false]
          exact ⟨_, HM.out, by rw [← HV.out]; simp⟩
      · have REL : Hid (((gs.take (m + 1)).all (guardD ps vs)) = true) := hide (by
          rw [HT.out, List.all_append, HA.out]
          simp only [List.all_cons, List.all_nil, Bool.and_true, Bool.true_and, ← HV.out])
        go_wp2_with (go_at_call 79; refine (HC.out _ (HF.out.alloc _)).mono ?_; rintro e w1 ⟨rfl, F5⟩)
        have F7 := hide ((HF.out.alloc _).trans F5)
        have B7 := hide ((HB.out.alloc _).kept0 F5)
        exact ⟨⟨m + 1, by simp, hlt, F7.out, B7.out, REL.out⟩, by simp [intOf]; omega⟩
    · obtain rfl : m = gs.length := by omega
      rw [List.take_of_length_le (Nat.le_refl _)] at hall
      have HA := hide hall
      clear hall
      go_wp2_with fail
      go_ret
      exact ⟨by rw [HA.out]; rfl, F⟩
/-- May a price be set no more? -/
def shutD (vs : List PricedD) (x : SetD) : Bool := decide (1099511627776 ≤ versionD vs x.1)
theorem open1_c (s : StV) (vs : List PricedD) (hv : s.nr = vs.length) (Bs : Nat) (p q n : Int) (w : World) (hB : Blk w Bs 77 #[.int .u64 s.q, .slice s.P s.np s.cp, .slice s.R s.nr s.cr, .slice s.L s.nl s.cl, .slice s.G s.ng s.cg, .slice s.O s.no s.co]) (h' : Sl fPriced w s.R s.cr vs) :
    Calls Tryz.prog 90 #[.agg #[.int .i64 p, .int .i64 q, .int .i64 n], .pointer (some ⟨Bs, 0, none⟩)] w fun e w' => e = .returned (.bool (shutD vs (p, q, n))) ∧ Fr no w w' := by
  have b0 := fun ob => (hB.alloc ob).cell 0
  have b1 := fun ob => (hB.alloc ob).cell 1
  have b2 := fun ob => (hB.alloc ob).cell 2
  have b3 := fun ob => (hB.alloc ob).cell 3
  have b4 := fun ob => (hB.alloc ob).cell 4
  have b5 := fun ob => (hB.alloc ob).cell 5
  simp at b0 b1 b2 b3 b4 b5
  obtain ⟨v, hv'⟩ : ∃ v, v = versionD vs p := ⟨_, rfl⟩
  rw [show shutD vs (p, q, n) = decide (1099511627776 ≤ v) by rw [hv']; rfl]
  have HC : Hid (∀ W, Fr no w W → Calls Tryz.prog 91 #[.agg #[.int .u64 s.q, .slice s.P s.np s.cp, .slice s.R s.nr s.cr, .slice s.L s.nl s.cl, .slice s.G s.ng s.cg, .slice s.O s.no s.co], .int .i64 p] W fun e w' => e = .returned (.int .i64 v) ∧ Fr no W w') := hide (fun W F' => by
    rw [hv']; exact version_c s vs hv p W (h'.below F'.below))
  clear hv' h' hv hB
  go_enter Tryz.func90, Tryz.ntmps90
  go_wp2_with (go_at_call 91; refine (HC.out _ ((Fr.refl no w).alloc _)).mono ?_; rintro e w1 ⟨rfl, F5⟩)
  have F7 := hide (((Fr.refl no w).alloc _).trans F5)
  clear F5
  go_wp2_with fail
  go_ret
  exact ⟨by first | rfl | simp, F7.out⟩
set_option maxRecDepth 100000 in
set_option maxHeartbeats 1000000 in
theorem index_c (s : StV) (vs : List PricedD) (hv : s.nr = vs.length) (Bs : Nat) (A : Option Addr) (c : Nat) (xs : List SetD) (w : World) (hB : Blk w Bs 77 #[.int .u64 s.q, .slice s.P s.np s.cp, .slice s.R s.nr s.cr, .slice s.L s.nl s.cl, .slice s.G s.ng s.cg, .slice s.O s.no s.co]) (h' : Sl fPriced w s.R s.cr vs) (hs : Sl fSet w A c xs) :
    Calls Tryz.prog 150 #[.slice A xs.length c, .func (.func 90) #[] #[.pointer (some ⟨Bs, 0, none⟩)]] w fun e w' => (∃ j : Int, e = .returned (.int .i64 j) ∧ decide (0 ≤ j) = xs.any (shutD vs)) ∧ Fr no w w' := by
  have hle := hs.le
  have htop := hs.top
  simp only [maxLen] at htop
  have HQ : Hid (∀ W, Fr no w W → Blk W Bs 77 #[.int .u64 s.q, .slice s.P s.np s.cp, .slice s.R s.nr s.cr, .slice s.L s.nl s.cl, .slice s.G s.ng s.cg, .slice s.O s.no s.co] ∧ Sl fPriced W s.R s.cr vs ∧ Sl fSet W A c xs) := hide (fun W F => ⟨hB.kept0 F, h'.below F.below, hs.below F.below⟩)
  have HNV := hide hv
  clear h' hB hs hv
  go_enter Tryz.func150, Tryz.ntmps150
  go_wp2_with fail
  go_loopw [8] (fun i wr => ∃ m : Nat, i = .int .i64 m ∧ m ≤ xs.length ∧ Fr no w wr ∧ ((xs.take m).any (shutD vs)) = false) (fun i _ => xs.length - (intOf i).toNat)
  case atStart => exact ⟨0, rfl, Nat.zero_le _, Fr.refl _ _, rfl⟩
  case round =>
    obtain ⟨m, rfl, hm, F, hall⟩ := hrel
    by_cases hlt : m < xs.length
    · obtain ⟨g, o, rfl, hc⟩ := (HQ.out wr F).2.2.cells (List.length_pos_iff.1 (by omega))
      obtain ⟨r1, r2, r3, hrm⟩ : ∃ r1 r2 r3, xs[m] = (r1, r2, r3) := ⟨_, _, _, rfl⟩
      have a0 : wr.cell? ⟨g, o + m * 3, none⟩ = some (.int .i64 r1) := by
        have := hc m hlt 0 (by decide)
        rw [hrm] at this; exact this
      have a1 : wr.cell? ⟨g, o + m * 3 + 1, none⟩ = some (.int .i64 r2) := by
        have := hc m hlt 1 (by decide)
        rw [hrm] at this; exact this
      have a2 : wr.cell? ⟨g, o + m * 3 + 2, none⟩ = some (.int .i64 r3) := by
        have := hc m hlt 2 (by decide)
        rw [hrm] at this; exact this
      have HA := hide hall
      have HT := hide (show xs.take (m + 1) = xs.take m ++ [(r1, r2, r3)] by rw [← hrm]; exact (List.take_append_getElem hlt).symm)
      have HM := hide (show (r1, r2, r3) ∈ xs by rw [← hrm]; exact List.getElem_mem hlt)
      have hi0 : (0 : Int) ≤ m := by omega
      have hi1 : (m : Int) < xs.length := by omega
      obtain ⟨v, hv⟩ : ∃ v, v = shutD vs (r1, r2, r3) := ⟨_, rfl⟩
      have HV := hide hv
      have HC : Hid (Calls Tryz.prog 90 #[.agg #[.int .i64 r1, .int .i64 r2, .int .i64 r3], .pointer (some ⟨Bs, 0, none⟩)] wr fun e w' => e = .returned (.bool v) ∧ Fr no wr w') := hide (by
        rw [HV.out]; exact open1_c s vs HNV.out Bs r1 r2 r3 wr (HQ.out wr F).1 (HQ.out wr F).2.1)
      have HF := hide F
      clear hc hrm hall hv
      cases v
      · have REL : Hid (((xs.take (m + 1)).any (shutD vs)) = false) := hide (by
          rw [HT.out, List.any_append, HA.out]
          simp only [List.any_cons, List.any_nil, Bool.or_false, Bool.false_or, ← HV.out])
        go_wp2_with (go_at_call 90; refine HC.out.mono ?_; rintro e w1 ⟨rfl, F5⟩)
        have F7 := hide (HF.out.trans F5)
        exact ⟨⟨m + 1, by simp, hlt, F7.out, REL.out⟩, by simp [intOf]; omega⟩
      · go_wp2_with (go_at_call 90; refine HC.out.mono ?_; rintro e w1 ⟨rfl, F5⟩)
        have F7 := hide (HF.out.trans F5)
        go_ret
        refine ⟨⟨m, rfl, ?_⟩, F7.out⟩
        rw [show (xs.any (shutD vs)) = true from List.any_eq_true.2 ⟨_, HM.out, HV.out.symm⟩]
        simp
    · obtain rfl : m = xs.length := by omega
      rw [List.take_of_length_le (Nat.le_refl _)] at hall
      have HA := hide hall
      clear hall
      go_wp2_with fail
      go_ret
      exact ⟨⟨-1, rfl, by rw [HA.out]; rfl⟩, F⟩
theorem contains_c (s : StV) (vs : List PricedD) (hv : s.nr = vs.length) (Bs : Nat) (A : Option Addr) (c : Nat) (xs : List SetD) (w : World) (hB : Blk w Bs 77 #[.int .u64 s.q, .slice s.P s.np s.cp, .slice s.R s.nr s.cr, .slice s.L s.nl s.cl, .slice s.G s.ng s.cg, .slice s.O s.no s.co]) (h' : Sl fPriced w s.R s.cr vs) (hs : Sl fSet w A c xs) :
    Calls Tryz.prog 89 #[.slice A xs.length c, .func (.func 90) #[] #[.pointer (some ⟨Bs, 0, none⟩)]] w fun e w' => e = .returned (.bool (xs.any (shutD vs))) ∧ Fr no w w' := by
  have HC := hide (index_c s vs hv Bs A c xs w hB h' hs)
  clear hB h' hs hv
  go_enter Tryz.func89, Tryz.ntmps89
  go_wp2_with (go_at_call 150; refine HC.out.mono ?_; rintro e w1 ⟨⟨j, rfl, hj⟩, F5⟩)
  have HJ := hide hj
  clear hj
  go_wp2_with fail
  go_ret
  exact ⟨by rw [← HJ.out]; rfl, F5⟩
/-- May all these prices be set once more? -/
def openD (vs : List PricedD) (xs : List SetD) : Bool := !(xs.any (shutD vs))
theorem Open_c (s : StV) (vs : List PricedD) (hv : s.nr = vs.length) (A : Option Addr) (c : Nat) (xs : List SetD) (w : World) (h' : Sl fPriced w s.R s.cr vs) (hs : Sl fSet w A c xs) :
    Calls Tryz.prog 47 #[.agg #[.int .u64 s.q, .slice s.P s.np s.cp, .slice s.R s.nr s.cr, .slice s.L s.nl s.cl, .slice s.G s.ng s.cg, .slice s.O s.no s.co], .slice A xs.length c] w fun e w' => e = .returned (.bool (openD vs xs)) ∧ Fr no w w' := by
  have HC := hide (contains_c s vs hv w.heap.size A c xs (w.alloc (.cells #[.int .u64 s.q, .slice s.P s.np s.cp, .slice s.R s.nr s.cr, .slice s.L s.nl s.cl, .slice s.G s.ng s.cg, .slice s.O s.no s.co] 77)) (Blk.new w _ _) (h'.below ((Fr.refl no w).alloc _).below) (hs.below ((Fr.refl no w).alloc _).below))
  unfold openD
  clear h' hs hv
  go_enter Tryz.func47, Tryz.ntmps47
  go_wp2_with (go_at_call 89; refine HC.out.mono ?_; rintro e w1 ⟨rfl, F5⟩)
  have F7 := hide (((Fr.refl no w).alloc _).trans F5)
  clear F5
  go_wp2_with fail
  go_ret
  exact ⟨rfl, F7.out⟩
end Go.Proofs.YtmnajpkmglmipaaGreat
