/- StM BookP BookC RuleJd -/
import Derived.Test.YtmnajpkmglmipaaGreatMRuleNeeds05
import Derived.Test.YtmnajpkmglmipaaGreatMRuleNeeds13
import Derived.Test.YtmnajpkmglmipaaGreatMRuleNeeds06
import Derived.Test.YtmnajpkmglmipaaGreatMRuleNeeds14
import Derived.Test.YtmnajpkmglmipaaGreatMRuleNeeds10
/- A state in memory of its own: what is written into it, what stays. -/
namespace Go.Proofs.YtmnajpkmglmipaaGreat
open Go.RowKit

/-- One cell of one element is changed. -/
theorem Flat.all_setc {α : Type} (f : Flat α) (xs : List α) (i r : Nat) (y : α) (v : Value) (hi : i < xs.length) (hr : r < f.sz) (he : f.enc y = (f.enc xs[i]).set r v) : (f.all xs).set (i * f.sz + r) v = f.all (xs.set i y) := by
  induction xs generalizing i with
  | nil => simp at hi
  | cons x xs ih =>
    cases i with
    | zero =>
      have hl := f.len x
      simp only [List.getElem_cons_zero] at he
      rw [f.all_cons, List.set_cons_zero, f.all_cons, he, Nat.zero_mul, Nat.zero_add, List.set_append_left _ _ (by omega)]
    | succ i =>
      have hl := f.len x
      simp only [List.getElem_cons_succ] at he
      have e : (i + 1) * f.sz + r = f.sz + (i * f.sz + r) := by rw [Nat.add_mul, Nat.one_mul]; omega
      rw [f.all_cons, List.set_cons_succ, f.all_cons, List.set_append_right _ _ (by omega), ← ih i (by simpa using hi) he]
      congr 2
      omega
theorem own_setc {α : Type} {f : Flat α} {w : World} {base g n c : Nat} {T : TypeId} {xs : List α} (h : w.ownsRow base T f.sz (.slice (some ⟨g, 0, none⟩) n c) n (f.all xs)) (i r : Nat) (y : α) (v : Value) (hi : i < xs.length) (hr : r < f.sz) (he : f.enc y = (f.enc xs[i]).set r v) :
    (w.setCell ⟨g, i * f.sz + r, none⟩ v).ownsRow base T f.sz (.slice (some ⟨g, 0, none⟩) n c) n (f.all (xs.set i y)) := by
  rw [← f.all_setc xs i r y v hi hr he]
  refine own_setCell h _ v ?_
  rw [f.all_length]
  have := Nat.mul_le_mul_right f.sz (show i + 1 ≤ xs.length from hi)
  rw [Nat.add_mul, Nat.one_mul] at this
  omega
abbrev poolR (p : PoolD) (h : Hdr) : PoolR := (p.1, p.2.1, h)
/-- Held rights in a row of their own. -/
def HeldMine (w : World) (base : Nat) (h : Hdr) (p : PoolD) : Prop := h.2.1 = p.2.2.length ∧ w.ownsRow base 141 2 (.slice h.1 h.2.1 h.2.2) h.2.1 (fHeld.all p.2.2)
def hb (h : Hdr) : Option Nat := h.1.map (·.block)
structure StMine (base : Nat) (w : World) (t : StV) (d : StL) (hs : List Hdr) : Prop where
  np : t.np = d.ps.length
  nr : t.nr = d.vs.length
  nl : t.nl = d.ls.length
  ng : t.ng = d.gs.length
  nw : t.no = d.os.length
  nh : hs.length = d.ps.length
  P : w.ownsRow base 144 4 (.slice t.P t.np t.cp) t.np (fPoolR.all (List.zipWith poolR d.ps hs))
  H : ∀ i (hi : i < d.ps.length) (hj : i < hs.length), HeldMine w base hs[i] d.ps[i]
  apart : ∀ i j (hi : i < hs.length) (hj : j < hs.length), i ≠ j → hb hs[i] = none ∨ hb hs[i] ≠ hb hs[j]
  R : w.ownsRow base 154 2 (.slice t.R t.nr t.cr) t.nr (fPriced.all d.vs)
  L : w.ownsRow base 71 1 (.slice t.L t.nl t.cl) t.nl (fNum.all d.ls)
  G : w.ownsRow base 71 1 (.slice t.G t.ng t.cg) t.ng (fNum.all d.gs)
  dLG : Dif t.L t.G
  O : w.ownsRow base 4 1 (.slice t.O t.no t.co) t.no (fOwe.all d.os)
theorem own_nil0 {w : World} {base size n c : Nat} {A : Option Addr} {e : TypeId} {xs : List Value} (h : w.ownsRow base e size (.slice A n c) n xs) : n ≤ c ∧ c ≤ maxLen ∧ (A = none → c = 0) := by
  rcases h.2 with ⟨h, h0⟩ | ⟨g', cap, cur, h1, _, _, h4, h5, _⟩
  · cases h; exact ⟨Nat.le_refl _, Nat.zero_le _, fun _ => rfl⟩
  · cases h1; exact ⟨h4, h5, fun e => by cases e⟩
theorem own_slA {α : Type} (f : Flat α) {w : World} {base n c : Nat} {T : TypeId} {A : Option Addr} {xs : List α} (hn : n = xs.length) (h : w.ownsRow base T f.sz (.slice A n c) n (f.all xs)) : Sl f w A c xs := by
  subst hn
  obtain ⟨A', c', e, hs⟩ := own_sl f h
  cases e
  exact hs
section
variable {base : Nat} {w w' : World} {t : StV} {d : StL} {hs : List Hdr}
theorem HeldMine.row {h : Hdr} {p : PoolD} (k : HeldMine w base h p) : kHeld.Row w h.1 h.2.2 p.2.2 := by
  have := own_slA fHeld k.1 k.2
  refine ⟨this.le, this.top, fun hn => ?_, this.none⟩
  obtain ⟨g, o, e, hc⟩ := this.cells hn
  exact ⟨g, o, e, fun i hi => ⟨_, eHeld w _, hc i hi⟩⟩
theorem StMine.pool (h : StMine base w t d hs) (i : Nat) (hi : i < d.ps.length) : ∃ g, t.P = some ⟨g, 0, none⟩ ∧ ∀ r, r < 4 → w.cell? ⟨g, i * 4 + r, none⟩ = (fPoolR.enc (poolR d.ps[i] (hs[i]'(by rw [h.nh]; exact hi))))[r]? := by
  have hj : i < hs.length := by rw [h.nh]; exact hi
  have hP := h.P
  have hz : (List.zipWith poolR d.ps hs).length = d.ps.length := by rw [List.length_zipWith, h.nh, Nat.min_self]
  have hA : ∃ g, t.P = some ⟨g, 0, none⟩ := by
    rcases hP.2 with ⟨_, h0⟩ | ⟨g, cap, cur, e, _⟩
    · have := h.np; omega
    · injection e with e1; exact ⟨g, e1⟩
  obtain ⟨g, hg⟩ := hA
  refine ⟨g, hg, fun r hr => ?_⟩
  rw [hg] at hP
  have := own_at fPoolR (xs := List.zipWith poolR d.ps hs) hP i r (by omega) hr
  rw [List.getElem_zipWith] at this
  exact this
theorem StMine.ok (h : StMine base w t d hs) : StOk w t d where
  np := h.np
  nr := h.nr
  nl := h.nl
  ng := h.ng
  nw := h.nw
  pools := by
    have h0 := own_nil0 h.P
    refine ⟨by rw [← h.np]; exact h0.1, h0.2.1, fun hn => ?_, h0.2.2⟩
    obtain ⟨g, hg, _⟩ := h.pool 0 (List.length_pos_iff.2 hn)
    refine ⟨g, 0, hg, fun i hi => ?_⟩
    obtain ⟨g', hg', hc⟩ := h.pool i hi
    rw [hg] at hg'
    injection hg' with e
    injection e with e
    subst e
    have hj : i < hs.length := by rw [h.nh]; exact hi
    have hm := h.H i hi hj
    refine ⟨[.int .i64 d.ps[i].1, .int .i64 d.ps[i].2.1.1, .int .i64 d.ps[i].2.1.2, .slice hs[i].1 d.ps[i].2.2.length hs[i].2.2], ⟨_, _, rfl, rfl, _, _, rfl, ⟨_, _, rfl, rfl, rfl⟩, hs[i].1, hs[i].2.2, rfl, hm.row⟩, fun r hr => ?_⟩
    rw [Nat.zero_add, show kPool.sz = 4 from rfl, hc r hr]
    have := hm.1
    simp only [fPoolR, poolR, this]
  prices := own_slA fPriced h.nr h.R
  lasts := own_slA fNum h.nl h.L
  gens := own_slA fNum h.ng h.G
  owed := own_slA fOwe h.nw h.O
theorem StMine.keep (h : StMine base w t d hs) (F : Fr no w w') : StMine base w' t d hs :=
  { h with P := own_kept h.P F, H := fun i hi hj => ⟨(h.H i hi hj).1, own_kept (h.H i hi hj).2 F⟩, R := own_kept h.R F, L := own_kept h.L F, G := own_kept h.G F, O := own_kept h.O F }
theorem StMine.down {b : Nat} (h : StMine base w t d hs) (hb : b ≤ base) : StMine b w t d hs :=
  { h with P := own_down h.P hb, H := fun i hi hj => ⟨(h.H i hi hj).1, own_down (h.H i hi hj).2 hb⟩, R := own_down h.R hb, L := own_down h.L hb, G := own_down h.G hb, O := own_down h.O hb }
theorem StMine.q (h : StMine base w t d hs) (q : Int) : StMine base w { t with q := q } d hs := ⟨h.np, h.nr, h.nl, h.ng, h.nw, h.nh, h.P, h.H, h.apart, h.R, h.L, h.G, h.dLG, h.O⟩
/-- A block of another type is written, or one that is none of these. -/
theorem own_other {size n c g o : Nat} {A : Option Addr} {T : TypeId} {xs : List Value} (h : w.ownsRow base T size (.slice A n c) n xs) (v : Value) (hn : ∀ a, A = some a → a.block ≠ g) : (w.setCell ⟨g, o, none⟩ v).ownsRow base T size (.slice A n c) n xs :=
  own_butv h (Fr.setCell w g o v) (fun a ha e => hn a ha e)
theorem own_oth {size size' n n' c c' g o b' : Nat} {A : Option Addr} {T T' : TypeId} {xs ys : List Value} (h : w.ownsRow base T size (.slice A n c) n xs) (h' : w.ownsRow b' T' size' (.slice (some ⟨g, 0, none⟩) n' c') n' ys) (hT : T ≠ T') (v : Value) :
    (w.setCell ⟨g, o, none⟩ v).ownsRow base T size (.slice A n c) n xs := own_other h v (fun a ha => own_typev h h' hT a _ ha rfl)
/-- A number of pool i is written: r = 0 its value, 1 and 2 its free rights. -/
theorem StMine.setPool (h : StMine base w t d hs) (i r : Nat) (g : Nat) (hg : t.P = some ⟨g, 0, none⟩) (hi : i < d.ps.length) (hr : r < 3) (p : PoolD) (v : Value) (he : ∀ x, fPoolR.enc (poolR p x) = (fPoolR.enc (poolR d.ps[i] x)).set r v) (hp : p.2.2 = d.ps[i].2.2) :
    StMine base (w.setCell ⟨g, i * 4 + r, none⟩ v) t { d with ps := d.ps.set i p } hs := by
  have hj : i < hs.length := by rw [h.nh]; exact hi
  have hz : (List.zipWith poolR d.ps hs).length = d.ps.length := by rw [List.length_zipWith, h.nh, Nat.min_self]
  have hP := h.P
  rw [hg] at hP
  have oth := fun {size n c : Nat} {A : Option Addr} {T : TypeId} {xs : List Value} (k : w.ownsRow base T size (.slice A n c) n xs) (hT : T ≠ 144) => own_oth (o := i * 4 + r) k hP hT v
  refine { h with np := by show _ = (d.ps.set i p).length; rw [List.length_set]; exact h.np, nh := by show _ = (d.ps.set i p).length; rw [List.length_set]; exact h.nh, P := ?_, H := ?_, R := oth h.R (by decide), L := oth h.L (by decide), G := oth h.G (by decide), O := oth h.O (by decide) }
  · have := own_setc (f := fPoolR) hP i r (poolR p hs[i]) v (by omega) (Nat.lt_of_lt_of_le hr (by decide)) (by rw [List.getElem_zipWith]; exact he _)
    rw [hg]
    have e : List.zipWith poolR (d.ps.set i p) hs = (List.zipWith poolR d.ps hs).set i (poolR p hs[i]) := by
      apply List.ext_getElem
      · simp
      · intro j h1 h2
        rw [List.getElem_zipWith, List.getElem_set, List.getElem_set, List.getElem_zipWith]
        split
        · rename_i e; subst e; rfl
        · rfl
    show (w.setCell _ v).ownsRow base _ 4 _ _ (fPoolR.all (List.zipWith poolR (d.ps.set i p) hs))
    rw [e]
    exact this
  · intro k hk hk'
    have hk2 : k < d.ps.length := by simpa using hk
    have hm := h.H k hk2 hk'
    have e : (d.ps.set i p)[k].2.2 = d.ps[k].2.2 := by
      rw [List.getElem_set]
      split
      · rename_i e; subst e; exact hp
      · rfl
    refine ⟨by show _ = (d.ps.set i p)[k].2.2.length; rw [e]; exact hm.1, ?_⟩
    show (w.setCell _ v).ownsRow base _ 2 _ _ (fHeld.all (d.ps.set i p)[k].2.2)
    rw [e]
    exact oth hm.2 (by decide)
/-- A held right of pool i is written. -/
theorem StMine.setHeld (h : StMine base w t d hs) (i j r : Nat) (g : Nat) (hi : i < d.ps.length) (hg : ∀ hj : i < hs.length, hs[i].1 = some ⟨g, 0, none⟩) (hj : j < d.ps[i].2.2.length) (hr : r < 2) (y : HeldD) (v : Value) (he : fHeld.enc y = (fHeld.enc d.ps[i].2.2[j]).set r v) :
    StMine base (w.setCell ⟨g, j * 2 + r, none⟩ v) t { d with ps := d.ps.set i (d.ps[i].1, d.ps[i].2.1, d.ps[i].2.2.set j y) } hs := by
  have hk : i < hs.length := by rw [h.nh]; exact hi
  have hm := h.H i hi hk
  have hg := hg hk
  have hP := hm.2
  rw [hg] at hP
  have oth := fun {size n c : Nat} {A : Option Addr} {T : TypeId} {xs : List Value} (k : w.ownsRow base T size (.slice A n c) n xs) (hT : T ≠ 141) => own_oth (o := j * 2 + r) k hP hT v
  refine { h with np := by show _ = (d.ps.set i _).length; rw [List.length_set]; exact h.np, nh := by show _ = (d.ps.set i _).length; rw [List.length_set]; exact h.nh, P := ?_, H := ?_, R := oth h.R (by decide), L := oth h.L (by decide), G := oth h.G (by decide), O := oth h.O (by decide) }
  · have e : List.zipWith poolR (d.ps.set i (d.ps[i].1, d.ps[i].2.1, d.ps[i].2.2.set j y)) hs = List.zipWith poolR d.ps hs := by
      apply List.ext_getElem
      · simp
      · intro k h1 h2
        rw [List.getElem_zipWith, List.getElem_zipWith, List.getElem_set]
        split
        · rename_i e; subst e; rfl
        · rfl
    show (w.setCell _ v).ownsRow base _ 4 _ _ (fPoolR.all (List.zipWith poolR (d.ps.set i _) hs))
    rw [e]
    exact oth h.P (by decide)
  · intro k h1 h2
    have h3 : k < d.ps.length := by simpa using h1
    by_cases e : k = i
    · subst e
      have e2 : (d.ps.set k (d.ps[k].1, d.ps[k].2.1, d.ps[k].2.2.set j y))[k]'(by simpa using h3) = (d.ps[k].1, d.ps[k].2.1, d.ps[k].2.2.set j y) := List.getElem_set_self _
      refine ⟨by show _ = ((d.ps.set k _)[k]).2.2.length; rw [e2]; show _ = (d.ps[k].2.2.set j y).length; rw [List.length_set]; exact hm.1, ?_⟩
      show (w.setCell _ v).ownsRow base _ 2 (.slice hs[k].1 hs[k].2.1 hs[k].2.2) _ (fHeld.all ((d.ps.set k _)[k]).2.2)
      rw [e2, hg]
      exact own_setc (f := fHeld) hP j r y v hj hr he
    · have hm2 := h.H k h3 h2
      have e2 : (d.ps.set i (d.ps[i].1, d.ps[i].2.1, d.ps[i].2.2.set j y))[k]'(by simpa using h3) = d.ps[k] := List.getElem_set_ne (fun e' => e e'.symm) _
      refine ⟨by show _ = ((d.ps.set i _)[k]).2.2.length; rw [e2]; exact hm2.1, ?_⟩
      show (w.setCell _ v).ownsRow base _ 2 _ _ (fHeld.all ((d.ps.set i _)[k]).2.2)
      rw [e2]
      refine own_other hm2.2 v (fun a ha e' => ?_)
      rcases h.apart k i h2 hk e with h4 | h4
      · rw [hb, ha] at h4; cases h4
      · exact h4 (by rw [hb, hb, ha, hg]; exact congrArg some e')
theorem StMine.setPrice (h : StMine base w t d hs) (i r : Nat) (g : Nat) (hg : t.R = some ⟨g, 0, none⟩) (hi : i < d.vs.length) (hr : r < 2) (y : PricedD) (v : Value) (he : fPriced.enc y = (fPriced.enc d.vs[i]).set r v) :
    StMine base (w.setCell ⟨g, i * 2 + r, none⟩ v) t { d with vs := d.vs.set i y } hs := by
  have hP := h.R
  rw [hg] at hP
  have oth := fun {size n c : Nat} {A : Option Addr} {T : TypeId} {xs : List Value} (k : w.ownsRow base T size (.slice A n c) n xs) (hT : T ≠ 154) => own_oth (o := i * 2 + r) k hP hT v
  exact { h with nr := by show _ = (d.vs.set i y).length; rw [List.length_set]; exact h.nr, P := oth h.P (by decide), H := fun k h1 h2 => ⟨(h.H k h1 h2).1, oth (h.H k h1 h2).2 (by decide)⟩, R := by rw [hg]; exact own_setc (f := fPriced) hP i r y v hi hr he, L := oth h.L (by decide), G := oth h.G (by decide), O := oth h.O (by decide) }
theorem StMine.setLast (h : StMine base w t d hs) (i : Nat) (g : Nat) (hg : t.L = some ⟨g, 0, none⟩) (hi : i < d.ls.length) (n : Int) :
    StMine base (w.setCell ⟨g, i, none⟩ (.int .u64 n)) t { d with ls := d.ls.set i n } hs := by
  have hP := h.L
  rw [hg] at hP
  have e := own_setc (f := fNum) hP i 0 n (.int .u64 n) hi (by decide) rfl
  rw [show i * fNum.sz + 0 = i from Nat.mul_one i] at e
  exact { h with nl := by show _ = (d.ls.set i n).length; rw [List.length_set]; exact h.nl, P := own_oth (o := i) h.P hP (by decide) _, H := fun k h1 h2 => ⟨(h.H k h1 h2).1, own_oth (o := i) (h.H k h1 h2).2 hP (by decide) _⟩, R := own_oth (o := i) h.R hP (by decide) _, L := by rw [hg]; exact e, G := own_other h.G _ (fun a ha e' => h.dLG _ _ hg ha e'.symm), O := own_oth (o := i) h.O hP (by decide) _ }
theorem StMine.setGen (h : StMine base w t d hs) (i : Nat) (g : Nat) (hg : t.G = some ⟨g, 0, none⟩) (hi : i < d.gs.length) (n : Int) :
    StMine base (w.setCell ⟨g, i, none⟩ (.int .u64 n)) t { d with gs := d.gs.set i n } hs := by
  have hP := h.G
  rw [hg] at hP
  have e := own_setc (f := fNum) hP i 0 n (.int .u64 n) hi (by decide) rfl
  rw [show i * fNum.sz + 0 = i from Nat.mul_one i] at e
  exact { h with ng := by show _ = (d.gs.set i n).length; rw [List.length_set]; exact h.ng, P := own_oth (o := i) h.P hP (by decide) _, H := fun k h1 h2 => ⟨(h.H k h1 h2).1, own_oth (o := i) (h.H k h1 h2).2 hP (by decide) _⟩, R := own_oth (o := i) h.R hP (by decide) _, G := by rw [hg]; exact e, L := own_other h.L _ (fun a ha e' => h.dLG _ _ ha hg e'), O := own_oth (o := i) h.O hP (by decide) _ }
theorem StMine.setOwed (h : StMine base w t d hs) (i : Nat) (g : Nat) (hg : t.O = some ⟨g, 0, none⟩) (hi : i < d.os.length) (b : Bool) :
    StMine base (w.setCell ⟨g, i, none⟩ (.bool b)) t { d with os := d.os.set i b } hs := by
  have hP := h.O
  rw [hg] at hP
  have e := own_setc (f := fOwe) hP i 0 b (.bool b) hi (by decide) rfl
  rw [show i * fOwe.sz + 0 = i from Nat.mul_one i] at e
  exact { h with nw := by show _ = (d.os.set i b).length; rw [List.length_set]; exact h.nw, P := own_oth (o := i) h.P hP (by decide) _, H := fun k h1 h2 => ⟨(h.H k h1 h2).1, own_oth (o := i) (h.H k h1 h2).2 hP (by decide) _⟩, R := own_oth (o := i) h.R hP (by decide) _, L := own_oth (o := i) h.L hP (by decide) _, G := own_oth (o := i) h.G hP (by decide) _, O := by rw [hg]; exact e }
end
end Go.Proofs.YtmnajpkmglmipaaGreat

/- The law's book: rights are taken, in plain Lean. -/
namespace Go.Proofs.YtmnajpkmglmipaaGreat
open Go.RowKit

theorem mid_right {w wr : World} {base base' B n c : Nat} {b : BookV} {A : Option Addr} {xs : List Value} (hbk : BookOk w base B b) (own : w.ownsRow base' 86 3 (.slice A n c) n xs)
    (hnew : ∀ e ∈ b.R.es, blkOf e = none ∨ blkOf e ≠ A.map (·.block)) (F : Fr (fun k => k = B ∨ some k = A.map (·.block)) w wr) (mm u : Int) (hu : b.used ≤ u) (hu2 : u ≤ 16777216)
    (hB : Blk wr B 54 (cellsOf { b with turn := mm, used := u })) : BookOk wr base B { b with turn := mm, used := u } where
  blk := hB
  lo := hbk.lo
  L := hbk.L.far own hbk.blk (by decide) (by decide) (by decide) (by decide) (by decide) (by decide) F
  G := hbk.G.far own hbk.blk (by decide) (by decide) (by decide) (by decide) (by decide) (by decide) F
  S := hbk.S.far own hbk.blk (by decide) (by decide) (by decide) (by decide) (by decide) (by decide) F
  R := hbk.R.own_new own hbk.blk hnew (by decide) (by decide) (by decide) (by decide) (by decide) F
  dLG := hbk.dLG
  dLS := hbk.dLS
  dLR := hbk.dLR
  dGS := hbk.dGS
  dGR := hbk.dGR
  dSR := hbk.dSR
  room := ⟨Int.le_trans hbk.room.1 hu, hu2⟩
set_option maxHeartbeats 8000000 in
set_option maxRecDepth 20000 in
theorem add_right {W W' : World} {base B n c g1 c1 g2 c2 : Nat} {b : BookV} {A : Option Addr} {mm : Int} (hbk : BookOk W base B b) (own : W.ownsRow base 86 3 (.slice A n c) n (fRight.all (List.replicate n (rightMk mm))))
    (hnew : ∀ e ∈ b.R.es, blkOf e = none ∨ blkOf e ≠ A.map (·.block)) (hn : n ≤ 60000) (hr : 8000 * ((b.L.t + b.G.t + b.S.t + b.R.t + 1 : Nat) : Int) ≤ b.used)
    (F : Fr (fun k => k = B ∨ some k = b.R.A.map (·.block) ∨ some k = b.R.OA.map (·.block)) W W')
    (o1 : W'.ownsRow base 59 1 (.slice (some ⟨g1, 0, none⟩) (b.R.es.length + 1) c1) (b.R.es.length + 1) (fHdr.all (b.R.es.map (·.1)) ++ [.slice A n c]))
    (o2 : W'.ownsRow base 3 1 (.slice (some ⟨g2, 0, none⟩) (b.R.es.length + 1) c2) (b.R.es.length + 1) (fInt.all (b.R.es.map (·.2)) ++ [.int .i64 mm]))
    (hg2 : b.R.OA.map (·.block) = some g2 ∨ W.heap.size ≤ g2)
    (hB : Blk W' B 54 (((cellsOf b).setIfInBounds 27 (.slice (some ⟨g1, 0, none⟩) (b.R.es.length + 1) c1)).setIfInBounds 28 (.slice (some ⟨g2, 0, none⟩) (b.R.es.length + 1) c2))) :
    BookOk W' base B { b with R := b.R.add g1 c1 g2 c2 ((A, n, c), mm) } where
  blk := by
    have e : (b.R.es ++ [(((A, n, c), mm) : KEntry)]).length = b.R.es.length + 1 := by simp
    have h2 : cellsOf { b with R := b.R.add g1 c1 g2 c2 ((A, n, c), mm) } = ((cellsOf b).setIfInBounds 27 (.slice (some ⟨g1, 0, none⟩) (b.R.es.length + 1) c1)).setIfInBounds 28 (.slice (some ⟨g2, 0, none⟩) (b.R.es.length + 1) c2) := by
      simp only [cellsOf, kc, KeptV.add, e]
      rfl
    rw [h2]
    exact hB
  lo := hbk.lo
  L := hbk.L.off hbk.R.outer hbk.R.of hbk.blk hbk.dLR (by decide) (by decide) (by decide) (by decide) (by decide) (by decide) (by decide) (by decide) F
  G := hbk.G.off hbk.R.outer hbk.R.of hbk.blk hbk.dGR (by decide) (by decide) (by decide) (by decide) (by decide) (by decide) (by decide) (by decide) F
  S := hbk.S.off hbk.R.outer hbk.R.of hbk.blk hbk.dSR (by decide) (by decide) (by decide) (by decide) (by decide) (by decide) (by decide) (by decide) F
  R := hbk.R.added own hbk.blk hnew (by decide) (by decide) (by decide) F hn o1 o2
  dLG := hbk.dLG
  dLS := hbk.dLS
  dLR := hbk.dLR.new hbk.L.of hg2
  dGS := hbk.dGS
  dGR := hbk.dGR.new hbk.G.of hg2
  dSR := hbk.dSR.new hbk.S.of hg2
  room := ⟨by
    show 8000 * ((b.L.t + b.G.t + b.S.t + (b.R.t + 1) : Nat) : Int) ≤ b.used
    rw [← Nat.add_assoc]; exact hr, hbk.room.2⟩

end Go.Proofs.YtmnajpkmglmipaaGreat

/- The law's book takes rights. -/
namespace Go.Proofs.YtmnajpkmglmipaaGreat
open Go.RowKit

set_option maxRecDepth 100000 in
set_option maxHeartbeats 16000000 in
theorem take_rights (w : World) (base B : Nat) (b : BookV) (A : Option Addr) (c : Nat) (xs : List RightD) (hbk : BookOk w base B b) (om : Om fRight 86 base w A c xs) (hlen : xs.length ≤ 8796093022208)
    (hnew : ∀ e ∈ b.R.es, blkOf e = none ∨ blkOf e ≠ A.map (·.block)) :
    Calls Tryz.prog 17 #[.pointer (some ⟨B, 0, none⟩), .slice A xs.length c] w fun e w' => e = .returned (.tuple #[]) ∧
      (∃ b', BookOk w' base B b' ∧ b'.L = b.L ∧ b'.G = b.G ∧ b'.S = b.S ∧ ∀ e ∈ b'.R.es, e ∈ b.R.es ∨ blkOf e = A.map (·.block)) ∧
      Fr (fun k => k = B ∨ some k = A.map (·.block) ∨ some k = b.R.A.map (·.block) ∨ some k = b.R.OA.map (·.block)) w w' := by
  obtain ⟨i1, hi1, ha0, ha1, ha2⟩ := info_parts info_rightss
  obtain ⟨i2, hi2, hb0, hb1, hb2⟩ := info_parts info_int
  have HB := hide hbk
  have HO := hide om
  have HN := hide hnew
  have hu := hbk.room
  have hu0 : 0 ≤ b.used := Int.le_trans (by omega) hu.1
  have k54 : w.cell? ⟨B, 54, none⟩ = some (.int .i64 b.turn) := (hbk.blk.cell 54).trans (c54 _)
  have f54 := hbk.blk.free 54
  obtain ⟨mm, hmm⟩ : ∃ mm, mm = wrap64 (b.turn + 1) := ⟨_, rfl⟩
  have B1 : Blk (w.setCell ⟨B, 54, none⟩ (.int .i64 mm)) B 54 (cellsOf { b with turn := mm }) := by have := hbk.blk.set 54 (.int .i64 mm); rw [set54] at this; exact this
  have HB1 := hide B1
  have own0 := om.own
  have hAB := own_blkv own0 hbk.blk (by decide)
  have HAB := hide hAB
  clear hbk om hnew B1 hAB
  go_enter Tryz.func17, Tryz.ntmps17
  go_wp2_with fail
  rw [← hmm]
  have HM := hide hmm
  clear hmm
  refine (mark_right mm _).mono ?_
  rintro e W2 ⟨rfl, F2⟩
  obtain ⟨mk, hmk⟩ : ∃ mk, mk = wrap64 (1000 + mm) := ⟨_, rfl⟩
  rw [← hmk]
  have HK := hide hmk
  have FA : Fr (fun k => k = B) w (w.setCell ⟨B, 54, none⟩ (.int .i64 mm)) := Fr.setCell _ _ _ _
  have F02 : Fr (fun k => k = B) w W2 := FA.trans0 F2
  have B2 := HB1.out.kept0 F2
  have own2 := own_butv own0 F02 (fun a ha => HAB.out a ha)
  have H2 := hide F02
  have HB2 := hide B2
  have HW2 := hide own2
  clear hmk k54 f54 own0 FA F02 B2 own2 F2
  go_upto_region 3 with fail
  obtain ⟨W3, hW3⟩ : ∃ W3, W2.alloc (.cells #[.int .i64 mk, .int .i64 0, .int .i64 0] 86) = W3 := ⟨_, rfl⟩
  have X3 : Blk W3 W2.heap.size 86 #[.int .i64 mk, .int .i64 0, .int .i64 0] := by rw [← hW3]; exact Blk.new W2 _ _
  have G3 : Fr no W2 W3 := by rw [← hW3]; exact (Fr.refl no W2).alloc _
  have B3 := HB2.out.kept0 G3
  have own3 := own_kept HW2.out G3
  have F3 : Fr (fun k => k = B ∨ some k = A.map (·.block)) w W3 := (H2.out.mono (fun _ _ e => .inl e)).trans0 G3
  have hw2 : w.heap.size ≤ W2.heap.size := H2.out.size
  rw [hW3]
  clear hW3 G3
  go_wp2_with fail
  go_loopw [6] (fun i wr => ∃ m : Nat, i = .int .i64 m ∧ m ≤ xs.length ∧ wr.ownsRow base 86 3 (.slice A xs.length c) xs.length (fRight.all (List.replicate m (mk, 0, 0) ++ xs.drop m)) ∧ Blk wr W2.heap.size 86 #[.int .i64 mk, .int .i64 0, .int .i64 0] ∧ Blk wr B 54 (cellsOf { b with turn := mm }) ∧ Fr (fun k => k = B ∨ some k = A.map (·.block)) w wr) (fun i _ => xs.length - (intOf i).toNat)
  case atStart => exact ⟨0, rfl, Nat.zero_le _, by rw [List.replicate_zero, List.nil_append, List.drop_zero]; exact own3, X3, B3, F3⟩
  case round =>
    clear X3 B3 own3 F3
    obtain ⟨m, rfl, hm, own, X, BB, F⟩ := hrel
    by_cases hlt : m < xs.length
    · have hA : ∃ g, A = some ⟨g, 0, none⟩ := by
        rcases own.2 with ⟨e, h0⟩ | ⟨g, cap, cur, e, _⟩
        · omega
        · cases e; exact ⟨g, rfl⟩
      obtain ⟨g, rfl⟩ := hA
      have hi : m < (List.replicate m ((mk, 0, 0) : RightD) ++ xs.drop m).length := by simp; omega
      have hgl : g < w.heap.size := (HO.out.own.lt g rfl).2
      have hgB : g ≠ B := HAB.out _ rfl
      have hl : (fRight.all (List.replicate m ((mk, 0, 0) : RightD) ++ xs.drop m)).length = xs.length * 3 := own.1
      obtain ⟨v0, a0⟩ : ∃ v, wr.cell? ⟨g, m * 3, none⟩ = some v := ⟨_, own_at fRight own m 0 hi (by decide)⟩
      obtain ⟨v1, a1⟩ : ∃ v, wr.cell? ⟨g, m * 3 + 1, none⟩ = some v := ⟨_, own_at fRight own m 1 hi (by decide)⟩
      obtain ⟨v2, a2⟩ : ∃ v, wr.cell? ⟨g, m * 3 + 2, none⟩ = some v := ⟨_, own_at fRight own m 2 hi (by decide)⟩
      have f0 := own_free own (m * 3)
      have f1 := own_free own (m * 3 + 1)
      have f2 := own_free own (m * 3 + 2)
      have x0 := X.cell 0
      have x1 := X.cell 1
      have x2 := X.cell 2
      have o1 := own_setCell own (m * 3) (.int .i64 mk) (by rw [hl]; omega)
      have o2 := own_setCell o1 (m * 3 + 1) (.int .i64 0) (by rw [List.length_set, hl]; omega)
      have o3 := own_setCell o2 (m * 3 + 2) (.int .i64 0) (by rw [List.length_set, List.length_set, hl]; omega)
      rw [Flat.all_set3 fRight rfl _ m (mk, 0, 0) _ _ _ rfl hi, rep_set xs m (mk, 0, 0) hlt] at o3
      have X' := ((X.setOther (show W2.heap.size ≠ g by omega) (m * 3) (.int .i64 mk)).setOther (show W2.heap.size ≠ g by omega) (m * 3 + 1) (.int .i64 0)).setOther (show W2.heap.size ≠ g by omega) (m * 3 + 2) (.int .i64 0)
      have B' := ((BB.setOther hgB.symm (m * 3) (.int .i64 mk)).setOther hgB.symm (m * 3 + 1) (.int .i64 0)).setOther hgB.symm (m * 3 + 2) (.int .i64 0)
      have G' := (((Fr.setCell wr g (m * 3) (.int .i64 mk)).trans (Fr.setCell _ g (m * 3 + 1) (.int .i64 0))).trans (Fr.setCell _ g (m * 3 + 2) (.int .i64 0)))
      have F' := F.trans (G'.mono (S' := fun k => k = B ∨ some k = (some (⟨g, 0, none⟩ : Addr)).map (·.block)) (fun k _ e => .inr (by subst e; rfl)))
      have REL := hide (And.intro o3 (And.intro X' (And.intro B' F')))
      have hi0 : (0 : Int) ≤ m := by omega
      have hi1 : (m : Int) < xs.length := by omega
      clear o1 o2 o3 X' B' G' F' own X BB F hl hi
      go_wp2_with fail
      exact ⟨⟨m + 1, by simp, hlt, REL.out.1, REL.out.2.1, REL.out.2.2.1, REL.out.2.2.2⟩, by simp [intOf]; omega⟩
    · obtain rfl : m = xs.length := by omega
      rw [List.drop_length, List.append_nil] at own
      have k56 : wr.cell? ⟨B, 56, none⟩ = some (.int .i64 b.used) := (BB.cell 56).trans (c56 _)
      have f56 := BB.free 56
      have HBB := hide BB
      have HF := hide F
      have HW := hide own
      clear BB F own X
      go_wp2_with fail
      by_cases hy : 16777216 < b.used + (8000 + 300 * (xs.length : Int))
      · refine (tight_yes B b.used _ _ k56 hu0 hu.2 (by omega) (by omega) hy).mono ?_
        rintro e w1 ⟨rfl, rfl⟩
        go_wp2_with fail
        exact bodyPost_ret (results_none rfl _ _ _) rfl ⟨rfl, ⟨_, mid_right HB.out HO.out.own HN.out HF.out mm b.used (Int.le_refl _) hu.2 HBB.out, rfl, rfl, rfl, fun e he => .inl he⟩, HF.out.mono (fun k _ e => by rcases e with e | e; exact .inl e; exact .inr (.inl e))⟩
      · refine (tight_no B b.used _ _ k56 f56 hu0 hu.2 (by omega) (by omega) hy).mono ?_
        rintro e w1 ⟨rfl, rfl⟩
        obtain ⟨u, hu'⟩ : ∃ u, u = b.used + (8000 + 300 * (xs.length : Int)) := ⟨_, rfl⟩
        rw [← hu']
        have hun : u ≤ 16777216 := by omega
        have hul : b.used + 8000 ≤ u := by omega
        have hxn : xs.length ≤ 60000 := by omega
        have B1 : Blk (wr.setCell ⟨B, 56, none⟩ (.int .i64 u)) B 54 (cellsOf { b with turn := mm, used := u }) := by have := HBB.out.set 56 (.int .i64 u); rw [set56] at this; exact this
        have FU : Fr (fun k => k = B) wr (wr.setCell ⟨B, 56, none⟩ (.int .i64 u)) := Fr.setCell _ _ _ _
        have F1 : Fr (fun k => k = B ∨ some k = A.map (·.block)) w (wr.setCell ⟨B, 56, none⟩ (.int .i64 u)) := HF.out.trans (FU.mono (fun k _ e => .inl e))
        have K1 := mid_right HB.out HO.out.own HN.out F1 mm u (by omega) hun B1
        have own1 := own_butv HW.out FU (fun a ha => HAB.out a ha)
        have hwz : w.heap.size ≤ (wr.setCell ⟨B, 56, none⟩ (.int .i64 u)).heap.size := F1.size
        obtain ⟨W1, hW1⟩ : ∃ W1, wr.setCell ⟨B, 56, none⟩ (.int .i64 u) = W1 := ⟨_, rfl⟩
        rw [hW1] at K1 own1 F1 hwz ⊢
        have k27 : W1.cell? ⟨B, 27, none⟩ = some (.slice b.R.A b.R.es.length b.R.c) := (K1.blk.cell 27).trans (c27 _)
        have hsm : b.R.es.length ≤ 12582 := by
          have h1 := K1.R.few
          have h2 := K1.room
          have h3 : (({ b with turn := mm, used := u } : BookV).R.es.length) = b.R.es.length := rfl
          have h4 : (({ b with turn := mm, used := u } : BookV).R.t) = b.R.t := rfl
          have h5 : (({ b with turn := mm, used := u } : BookV).used) = u := rfl
          have h6 : 8000 * ((b.L.t + b.G.t + b.S.t + b.R.t : Nat) : Int) ≤ u := h2.1
          rw [h3, h4] at h1
          omega
        have HK1 := hide K1
        have HW1 := hide own1
        have HF1 := hide F1
        have hwB : base ≤ W1.heap.size := Nat.le_trans K1.lo (Nat.le_of_lt K1.blk.lt)
        have notB := own_blkv K1.R.outer K1.blk (by decide)
        have HNB := hide notB
        clear hW1 K1 own1 F1 B1 FU k56 f56 notB hu'
        go_wp2_with (at_builtin; (refine wpList_append_new _ rfl _ _ 44 rfl base 59 i1 (.slice none 0 0) 1 24 Tryz.underlying44 hi1 ha0 ha1 ha2 rfl (by decide) _ b.R.es.length (fHdr.all (b.R.es.map (·.1))) rfl (own_kept HK1.out.R.outer ((Fr.refl no _).alloc _)) ⟨W1.heap.size, 0, none⟩ 1 [.slice A xs.length c] rfl rfl (new_cells' W1 _ rfl [.slice A xs.length c] _) (fun u hu => by simp at hu; subst hu; rfl) (by simp only [maxLen]; omega) (by omega) (by simp; omega) ?_))
        intro g1 c1 w3 own3 grow3 new3
        have nB : ∀ (X : Option Addr), (∀ a, X = some a → a.block ≠ B) → ¬ (some B = X.map (·.block)) := by
          intro X h e
          cases X with
          | none => cases e
          | some a => exact h a rfl (by simpa using e.symm)
        have B3 : Blk w3 B 54 (cellsOf { b with turn := mm, used := u }) := (HK1.out.blk.alloc _).kept (Fr.of_grown grow3) (fun e => nB _ HNB.out (by rw [own_opt] at e; exact e))
        have G3 : Fr (fun k => some k = b.R.A.map (·.block)) W1 w3 := ((Fr.refl _ W1).alloc _).trans ((Fr.of_grown grow3).mono (fun k _ e => by rw [own_opt] at e; exact e))
        have F3 : Fr (fun k => k = B ∨ some k = b.R.A.map (·.block)) W1 (w3.setCell ⟨B, 27, none⟩ (.slice (some ⟨g1, 0, none⟩) (b.R.es.length + 1) c1)) := (G3.mono (fun k _ e => .inr e)).trans ((Fr.setCell _ _ _ _).mono (fun k _ e => .inl e))
        have B4 := B3.set 27 (.slice (some ⟨g1, 0, none⟩) (b.R.es.length + 1) c1)
        have o4 := own_butv own3 (Fr.setCell w3 B 27 (.slice (some ⟨g1, 0, none⟩) (b.R.es.length + 1) c1)) (fun a ha => own_blkv own3 B3 (by decide) a ha)
        have of4 := own_butv HK1.out.R.of F3 (by
          rintro a ha (e | e)
          · exact own_blkv HK1.out.R.of HK1.out.blk (by decide) a ha e
          · exact opt_blk (fun a' ha' => own_typev HK1.out.R.of HK1.out.R.outer (by decide) a a' ha ha') e)
        have k28 : w3.cell? ⟨B, 28, none⟩ = some (.slice b.R.OA b.R.es.length b.R.oc) := (B3.cell 28).trans (c28 _)
        have k27 : w3.cell? ⟨B, 27, none⟩ = some (.slice b.R.A b.R.es.length b.R.c) := (B3.cell 27).trans (c27 _)
        have f27 := B3.free 27
        have H3 := hide F3
        have H4 := hide B4
        have HO4 := hide o4
        have HOF := hide of4
        have HnB := hide nB
        clear own3 grow3 new3 B3 G3 F3 B4 o4 of4 nB
        go_wp2_with (at_builtin; (refine wpList_append_new _ rfl _ _ 36 rfl base 3 i2 (.int .i64 0) 1 8 Tryz.underlying36 hi2 hb0 hb1 hb2 rfl (by decide) _ b.R.es.length (fInt.all (b.R.es.map (·.2))) rfl (own_kept HOF.out ((Fr.refl no _).alloc _)) ⟨w3.heap.size, 0, none⟩ 1 [.int .i64 mm] rfl rfl (new_cells' (w3.setCell ⟨B, 27, none⟩ (.slice (some ⟨g1, 0, none⟩) (b.R.es.length + 1) c1)) _ (by simp) [.int .i64 mm] _) (fun u hu => by simp at hu; subst hu; rfl) (by simp only [maxLen]; omega) (by omega) (by have := H3.out.size; simp at this ⊢; omega) ?_))
        intro g2 c2 w5 own5 grow5 new5
        have NB2 := HnB.out b.R.OA (own_blkv HK1.out.R.of HK1.out.blk (by decide))
        have B5 := (H4.out.alloc _).kept (Fr.of_grown grow5) (fun e => NB2 (by rw [own_opt] at e; exact e))
        have G5 : Fr (fun k => some k = b.R.OA.map (·.block)) (w3.setCell ⟨B, 27, none⟩ (.slice (some ⟨g1, 0, none⟩) (b.R.es.length + 1) c1)) w5 := ((Fr.refl _ _).alloc _).trans ((Fr.of_grown grow5).mono (fun k _ e => by rw [own_opt] at e; exact e))
        have F5 : Fr (fun k => k = B ∨ some k = b.R.A.map (·.block) ∨ some k = b.R.OA.map (·.block)) W1 (w5.setCell ⟨B, 28, none⟩ (.slice (some ⟨g2, 0, none⟩) (b.R.es.length + 1) c2)) :=
          ((H3.out.mono (fun k _ e => by rcases e with e | e; exact .inl e; exact .inr (.inl e))).trans (G5.mono (fun k _ e => .inr (.inr e)))).trans ((Fr.setCell _ _ _ _).mono (fun k _ e => .inl e))
        have o5 := own_butv HO4.out G5 (fun a ha => opt_blk (fun a' ha' => own_typev HO4.out HOF.out (by decide) a a' ha ha'))
        have f28 := B5.free 28
        have B6 := B5.set 28 (.slice (some ⟨g2, 0, none⟩) (b.R.es.length + 1) c2)
        have o6 := own_butv o5 (Fr.setCell w5 B 28 (.slice (some ⟨g2, 0, none⟩) (b.R.es.length + 1) c2)) (fun a ha => own_blkv o5 B5 (by decide) a ha)
        have p6 := own_butv own5 (Fr.setCell w5 B 28 (.slice (some ⟨g2, 0, none⟩) (b.R.es.length + 1) c2)) (fun a ha => own_blkv own5 B5 (by decide) a ha)
        have hg2 : b.R.OA.map (·.block) = some g2 ∨ W1.heap.size ≤ g2 := by
          rcases newAt_opt new5 with h | h
          · exact .inl h
          · have := H3.out.size
            simp at this h
            exact .inr (by omega)
        have k28' : w5.cell? ⟨B, 28, none⟩ = some (.slice b.R.OA b.R.es.length b.R.oc) := by rw [B5.cell 28, Array.getElem?_setIfInBounds_ne (by decide)]; exact c28 _
        have q1 : W1.ownsRow base 86 3 (.slice A xs.length c) xs.length (fRight.all (List.replicate xs.length (rightMk mm))) := by
          rw [show rightMk mm = (mk, 0, 0) from by rw [HK.out]; rfl]
          exact HW1.out
        have END := add_right HK1.out q1 HN.out hxn (by show 8000 * ((b.L.t + b.G.t + b.S.t + b.R.t + 1 : Nat) : Int) ≤ u; omega) F5 o6 p6 hg2 B6
        have HEND := hide END
        have HES : Hid (∀ e ∈ (b.R.add g1 c1 g2 c2 ((A, xs.length, c), mm)).es, e ∈ b.R.es ∨ blkOf e = A.map (·.block)) := hide (by
          intro e he
          have he2 : e ∈ b.R.es ++ [(((A, xs.length, c), mm) : KEntry)] := he
          rcases List.mem_append.1 he2 with h | h
          · exact .inl h
          · rw [List.mem_singleton] at h
            rw [h]
            exact .inr rfl)
        have HF5 := hide F5
        clear END F5 q1 B6 o6 p6 hg2 own5 grow5 new5 B5 G5 o5 NB2
        go_wp2_with fail
        exact bodyPost_end (results_none rfl _ _ _) rfl ⟨rfl, ⟨_, HEND.out, rfl, rfl, rfl, (fun _ _ _ _ h => HES.out _ h)⟩, (HF1.out.mono (fun k _ e => by rcases e with e | e; exact .inl e; exact .inr (.inl e))).trans (HF5.out.mono (fun k _ e => by rcases e with e | e | e; exact .inl e; exact .inr (.inr (.inl e)); exact .inr (.inr (.inr e))))⟩
end Go.Proofs.YtmnajpkmglmipaaGreat

/- What rule.Judge tells. -/
namespace Go.Proofs.YtmnajpkmglmipaaGreat
open Go.RowKit Go.Shelf Go.Maps

def doneD (b : Bool) : Int := if b then 5 else 3
theorem done_c2 (b : Bool) (w : World) : Calls Tryz.prog 139 #[.bool b] w fun e w' => e = .returned (.int .i64 (doneD b)) ∧ w' = w := done_c b w
/-- Does a till owe something? -/
def owesD (d : StL) (t : Int) (gen : Int) : Bool := if t < 0 then false else match d.os[t.toNat]?, d.gs[t.toNat]? with | some o, some g => o && decide (g = gen) | _, _ => false
/-- How many rights are granted. -/
def askN (r fr h : Int) : Int := max 0 (if IntKind.i64.wrap (18014398509481984 - h) < (if fr < r then fr else r) then IntKind.i64.wrap (18014398509481984 - h) else if fr < r then fr else r)
theorem results_tmp4 {fn : Func} {t u v x : Tmp} (h : fn.results = #[.tmp t, .tmp u, .tmp v, .tmp x]) (tmps : Array Value) (P : Program) (w : World) :
    (results fn tmps).run P w = .ok (.tuple #[tmps.getD t undef, tmps.getD u undef, tmps.getD v undef, tmps.getD x undef]) w := by
  simp [results, h]
theorem calls_fr3 {P : Program} {f : FuncId} {args : Array Value} {W0 W' : World} (F : Fr no W0 W') {v : Value} (h : Calls P f args W' fun e w' => e = .returned v ∧ Fr no W' w') : Calls P f args W' fun e w'' => e = .returned v ∧ ∃ q : FrBy W0, w'' = q.w ∧ Fr no W' q.w :=
  h.mono fun _ w' ⟨he, hF⟩ => ⟨he, ⟨w', F.trans hF⟩, rfl, hF⟩
/-- What has come up, said anew. -/
theorem wpAnyH_lit {P : Program} {md : Region.Mode} {ops : Array Oper} {Q : Exit → Act → World → Prop} {S : World → Prop} {fuel : Nat} {listed listed' : Array Bool} {a : Act} {w : World} (h : listed = listed')
    (k : wpAnyH P md ops Q S fuel listed' a w) : wpAnyH P md ops Q S fuel listed a w := by rw [h]; exact k
/-- What becomes of an act. -/
def judgeD (d : StL) (a : ActV) (l : ActL) : Int × (List LineD × List SetD) × Int :=
  if a.k = 1 then ((writeD d a l).1, (writeD d a l).2, 0) else
  if a.k = 2 then (4, ([], []), askN a.r3 (freeD d.ps a.r1 a.r2) (heldD d.ps a.t a.r1 a.r2)) else
  if a.k = 3 then (doneD (decide (a.r3 ≤ heldD d.ps a.t a.r1 a.r2)), ([], []), 0) else
  if a.k = 4 then (doneD (decide (a.r3 ≤ heldD d.ps a.t a.r1 a.r2) && decide (heldD d.ps a.tu a.r1 a.r2 ≤ IntKind.i64.wrap (18014398509481984 - a.r3))), ([], []), 0) else
  (doneD (owesD d a.t a.gen && l.rs.all fun r => decide (r.2.2 ≤ heldD d.ps a.t r.1 r.2.1)), ([], []), 0)
/-- The contract of rule.Judge. -/
def JudgeSaid : Prop := ∀ (s : StV) (d : StL) (a : ActV) (l : ActL) (w : World) (hs : StOk w s d) (ha : ActOk w a l),
    Calls Tryz.prog 71 #[.agg #[.int .u64 s.q, .slice s.P s.np s.cp, .slice s.R s.nr s.cr, .slice s.L s.nl s.cl, .slice s.G s.ng s.cg, .slice s.O s.no s.co], .agg #[.int .i64 a.t, .int .u64 a.n, .int .i64 a.k, .bool a.sure, .slice a.lA a.ln a.lc, .slice a.gA a.gn a.gc, .slice a.sA a.sn a.sc, .int .i64 a.mq, .slice a.oA a.on a.oc, .int .i64 a.r1, .int .i64 a.r2, .int .i64 a.r3, .int .i64 a.tu, .int .u64 a.gen, .slice a.hA a.hn a.hc]] w fun e w' => ∃ A1 n1 c1 A2 n2 c2, e = .returned (.tuple #[.int .i64 (judgeD d a l).1, .slice A1 n1 c1, .slice A2 n2 c2, .int .i64 (judgeD d a l).2.2]) ∧ WriteR w.heap.size w' A1 n1 c1 A2 n2 c2 (judgeD d a l).2.1 ∧ Fr no w w'
end Go.Proofs.YtmnajpkmglmipaaGreat
