/- TrendExact's state: the twins, their averages and counts. -/
import Derived.Test.YtljcncfipocnpaaBegin
namespace Go.Proofs.Ytljcncfipocnpaa
open Go.RowKit Fl

def put {α : Type} (f : Nat → α) (j : Nat) (v : α) : Nat → α := fun i => if i = j then v else f i
theorem put_at {α : Type} (f : Nat → α) (j : Nat) (v : α) : put f j v j = v := if_pos rfl
theorem put_ne {α : Type} (f : Nat → α) {i j : Nat} (v : α) (h : i ≠ j) : put f j v i = f i := if_neg h

/-- What stays. -/
structure Stay (base b : Nat) (cur : Array Value) (ts : List TW) : Prop where
  c0 : ∀ j (h : j < ts.length), cur[j * 2]? = some (.pointer (some ⟨ts[j].g, 0, none⟩))
  c1 : ∀ j (h : j < ts.length), cur[j * 2 + 1]? = some (.pointer (some ⟨ts[j].h, 0, none⟩))
  k : ∀ j (h : j < ts.length), KeepIs ts[j].k
  gb : ∀ j (h : j < ts.length), base ≤ ts[j].g ∧ ts[j].g ≠ b
  hb : ∀ j (h : j < ts.length), base ≤ ts[j].h ∧ ts[j].h ≠ b
  dg : ∀ i j (hi : i < ts.length) (hj : j < ts.length), i ≠ j → ts[i].g ≠ ts[j].g
  dh : ∀ i j (hi : i < ts.length) (hj : j < ts.length), i ≠ j → ts[i].h ≠ ts[j].h
structure St (W : World) (b : Nat) (cur : Array Value) (ts : List TW) (av : Nat → Nat) (cn : Nat → Nat) (M : Nat) : Prop where
  row : Blk W b 62 cur
  t : ∀ j (h : j < ts.length), TrendAt W ts[j].g ts[j].k (av j) (cn j)
  r : ∀ j (h : j < ts.length), RefAt W ts[j].h ts[j].k (av j) (cn j)
  a : ∀ j, j < ts.length → Avg (cn j) (av j)
  n : ∀ j, j < ts.length → cn j ≤ M
theorem St.kept {W W' : World} {b M : Nat} {cur : Array Value} {ts : List TW} {av cn : Nat → Nat} (h : St W b cur ts av cn M) (f : Fr no W W') : St W' b cur ts av cn M :=
  ⟨h.row.kept0 f, fun j hj => Blk.kept0 (h.t j hj) f, fun j hj => Blk.kept0 (h.r j hj) f, h.a, h.n⟩
theorem St.more {W : World} {b M M' : Nat} {cur : Array Value} {ts : List TW} {av cn : Nat → Nat} (h : St W b cur ts av cn M) (hM : M ≤ M') : St W b cur ts av cn M' :=
  ⟨h.row, h.t, h.r, h.a, fun j hj => Nat.le_trans (h.n j hj) hM⟩
theorem apart {W : World} {g h k k' a a' : Nat} {n n' : Int} (ht : TrendAt W g k a n) (hr : RefAt W h k' a' n') : g ≠ h := by
  rintro rfl
  unfold TrendAt Blk at ht
  unfold RefAt Blk at hr
  rw [ht] at hr
  simp at hr
/-- Both halves of twin j are told x. -/
theorem St.note {W W1 W2 : World} {base b M : Nat} {cur : Array Value} {ts : List TW} {av cn : Nat → Nat} (s : Stay base b cur ts) (h : St W b cur ts av cn M) (j : Nat) (hj : j < ts.length) (v : Nat)
    (hv : AvgIs v) (t1 : TrendAt W1 ts[j].g ts[j].k v ((cn j : Int) + 1)) (f1 : Fr (fun k => k = ts[j].g) W W1) (r2 : RefAt W2 ts[j].h ts[j].k v ((cn j : Int) + 1)) (f2 : Fr (fun k => k = ts[j].h) W1 W2) :
    St W2 b cur ts (put av j v) (put cn j (cn j + 1)) (M + 1) := by
  have ap : ∀ i (hi : i < ts.length) l (hl : l < ts.length), ts[i].g ≠ ts[l].h := fun i hi l hl => apart (h.t i hi) (h.r l hl)
  refine ⟨(h.row.kept f1 (s.gb j hj).2.symm).kept f2 (s.hb j hj).2.symm, ?_, ?_, ?_, ?_⟩
  · intro i hi
    by_cases e : i = j
    · subst e
      rw [put_at, put_at]
      exact Blk.kept t1 f2 (ap i hi i hi)
    · rw [put_ne _ _ e, put_ne _ _ e]
      exact Blk.kept (Blk.kept (h.t i hi) f1 (s.dg i j hi hj e)) f2 (ap i hi j hj)
  · intro i hi
    by_cases e : i = j
    · subst e
      rw [put_at, put_at]
      exact r2
    · rw [put_ne _ _ e, put_ne _ _ e]
      exact Blk.kept (Blk.kept (h.r i hi) f1 (ap j hj i hi).symm) f2 (s.dh i j hi hj e)
  · intro i hi
    by_cases e : i = j
    · subst e; rw [put_at, put_at]; exact .inr hv
    · rw [put_ne _ _ e, put_ne _ _ e]; exact h.a i hi
  · intro i hi
    by_cases e : i = j
    · subst e; rw [put_at]; exact Nat.succ_le_succ (h.n i hi)
    · rw [put_ne _ _ e]; exact Nat.le_succ_of_le (h.n i hi)
theorem nodup_ne {f : TW → Nat} {ts : List TW} (h : (ts.map f).Nodup) {i j : Nat} (hi : i < ts.length) (hj : j < ts.length) (hne : i ≠ j) : f ts[i] ≠ f ts[j] := by
  have hp := List.pairwise_iff_getElem.1 h
  rcases Nat.lt_or_gt_of_ne hne with hl | hl
  · have := hp i j (by simpa using hi) (by simpa using hj) hl
    simpa using this
  · have := hp j i (by simpa using hj) (by simpa using hi) hl
    intro e
    apply this
    simpa using e.symm
/-- What begin made. -/
theorem stay_of {W : World} {base : Nat} {v : Value} {ts : List TW} (hn : 0 < ts.length) (own : W.ownsRow base 62 2 v ts.length (flat ts)) (fr : Fresh W base v.ownBlock ts) :
    ∃ b cap cur, v = .slice (some ⟨b, 0, none⟩) ts.length cap ∧ base ≤ b ∧ ts.length ≤ cap ∧ cap ≤ maxLen ∧ Stay base b cur ts ∧ St W b cur ts (fun _ => 0) (fun _ => 0) 0 := by
  rcases own.2 with ⟨_, h0⟩ | ⟨b, cap, cur, rfl, hb, hblk, hc, hm, hs, htake⟩
  · omega
  · have hrow : (Value.slice (some ⟨b, 0, none⟩) ts.length cap).ownBlock = some b := rfl
    rw [hrow] at fr
    have hcur : ∀ i, i < ts.length * 2 → cur[i]? = (flat ts)[i]? := by
      intro i hi
      rw [← htake, List.getElem?_take, if_pos hi, Array.getElem?_toList]
    refine ⟨b, cap, cur, rfl, hb, hc, hm, ⟨?_, ?_, ?_, ?_, ?_, ?_, ?_⟩, ⟨hblk, ?_, ?_, ?_, ?_⟩⟩
    · intro j hj; rw [hcur _ (by omega)]; exact (flat_get ts j hj).1
    · intro j hj; rw [hcur _ (by omega)]; exact (flat_get ts j hj).2
    · intro j hj; exact fr.k _ (List.getElem_mem hj)
    · intro j hj; have := fr.bg _ (List.getElem_mem hj); exact ⟨this.1, fun e => this.2 (by rw [e])⟩
    · intro j hj; have := fr.bh _ (List.getElem_mem hj); exact ⟨this.1, fun e => this.2 (by rw [e])⟩
    · intro i j hi hj hne e
      exact nodup_ne (f := TW.g) fr.dg hi hj hne e
    · intro i j hi hj hne e
      exact nodup_ne (f := TW.h) fr.dh hi hj hne e
    · intro j hj; exact fr.t _ (List.getElem_mem hj)
    · intro j hj; exact fr.r _ (List.getElem_mem hj)
    · intro j hj; exact .inl ⟨rfl, rfl⟩
    · intro j hj; exact Nat.le_refl _
end Go.Proofs.Ytljcncfipocnpaa
