/- KEnt Sort App -/
import Derived.Test.YtmnajpkmglmipaaGreatMRuleNeeds00
import Derived.WideKeyEntry
import Derived.Test.YtmnajpkmglmipaaGreatMRuleNeeds01
import Derived.Test.YtmnajpkmglmipaaGreatMRuleNeeds02
import Derived.Shelf.SlSortCmp.WholeK
import Derived.Shelf.SlSortCmp.NoneTotal
import Derived.Shelf.SlLaysF0
import Derived.OwnWalkIn
/- m[k] += n at a map with integer elements: its entry is fetched, and stored. -/
namespace Go.Proofs.YtmnajpkmglmipaaGreat
open Go.RowKit Go.Maps Go.ChangeShapes Go.WideShapes Go.MapKept Go.ChangeMaps
open Go.WideElems (Fit rd rg pl findIdx_born findIdx_arr modify_last set_self)

section
variable {H : Type} {P : Program} {w : World} {t k e : TypeId} {R : Value → Option (DataW H × List MemPlace)} {b : Nat} {es : Array MapEntry} {clock : Nat}

/-- The entry of a key is fetched: it is there, or is laid with the zero value. -/
theorem entry_run (K : Keyed P k) (ht : P.underlying t = some (.map k e)) {z : Value} (hz : ∀ u : World, (zeroValue e).run P u = .ok z u) (hb : w.heap[b]? = some (.map es clock)) (F : Fit P k R es clock) {key : Value} {kl : Lit} (hkey : keyOf P k key = some kl) :
    (∃ (j : Nat) (e0 : MapEntry), es.toList[j]? = some e0 ∧ e0.key = key ∧ (Instr.mapEntry t (.map (some b)) key).run P w = .ok (.tuple #[e0.val, goInt e0.born]) (setBlock w b (.map es clock))) ∨
    ((∀ x ∈ es.toList, x.key ≠ key) ∧ (Instr.mapEntry t (.map (some b)) key).run P w = .ok (.tuple #[z, goInt clock]) (setBlock w b (.map (es.push ⟨key, z, clock⟩) (clock + 1))) ∧
      (Instr.mapUpdate t (.map (some b)) key z).run P w = .ok () (setBlock w b (.map (es.push ⟨key, z, clock⟩) (clock + 1)))) := by
  rcases K.find w hkey es.toList F.keys with ⟨h1, h2⟩ | ⟨j, e0, h1, h2, h3⟩
  · refine .inr ⟨h2, ?_, ?_⟩
    · simp [Instr.mapEntry, run_underlying ht, MapKept.run_getObj_map hb, K.check w false hkey, h1, hz, MapKept.run_setObj_map _ hb, Result.andThen, setBlock]
    · simp [Instr.mapUpdate, run_underlying ht, MapKept.run_getObj_map hb, K.check w false hkey, h1, MapKept.run_setObj_map _ hb, Result.andThen, setBlock]
  · have hj : es[j]? = some e0 := by simpa using h2
    have hsame : es.modify j (fun e => { e with key := key }) = es := by
      apply Array.ext'
      rw [Array.toList_modify, modify_eq_set _ _ _ _ h2]
      have : ({ e0 with key := key } : MapEntry) = e0 := by rw [← h3]
      rw [this]
      exact set_self _ _ _ h2
    refine .inl ⟨j, e0, h2, h3, ?_⟩
    simp [Instr.mapEntry, run_underlying ht, MapKept.run_getObj_map hb, K.check w false hkey, h1, hj, h3, K.stays w hkey, hsame, MapKept.run_setObj_map _ hb, Result.andThen, setBlock]
/-- A store into a fetched entry is a store at its key. -/
theorem store_run (K : Keyed P k) (ht : P.underlying t = some (.map k e)) (hb : w.heap[b]? = some (.map es clock)) (F : Fit P k R es clock) {key val : Value} {kl : Lit} (hkey : keyOf P k key = some kl) {j : Nat} {e0 : MapEntry} (hj : es.toList[j]? = some e0) (hk : e0.key = key) :
    (Instr.entryStore t (.map (some b)) (goInt e0.born) val).run P w = (Instr.mapUpdate t (.map (some b)) key val).run P w := by
  obtain ⟨_, s2, s3⟩ := (stamped_iff es clock).1 F.stamped
  have s2' : (es.toList.map (·.born)).Nodup := F.stamped.2.1
  rcases K.find w hkey es.toList F.keys with ⟨_, h2⟩ | ⟨j', e1, h1, h2, h3⟩
  · exact absurd hk (h2 e0 (List.mem_of_getElem? hj))
  · obtain rfl : e1 = e0 := entry_eq_of_key s3 (List.mem_of_getElem? h2) (List.mem_of_getElem? hj) (h3.trans hk.symm)
    obtain rfl : j' = j := by
      have q1 := findIdx_born s2' h2
      have q2 := findIdx_born s2' hj
      rw [q1] at q2; exact Option.some.inj q2
    have hidx : es.findIdx? (fun e => ((e.born : Nat) : Int) == ((e1.born : Nat) : Int)) = some j' := by
      rw [findIdx_arr]
      exact findIdx_born s2' h2
    have hj' : es[j']? = some e1 := by simpa using h2
    have hmod : es.modify j' (fun e => { e with val := val }) = es.modify j' (fun e' => { e' with key := key, val := val }) := by
      apply Array.ext'
      rw [Array.toList_modify, Array.toList_modify, modify_eq_set _ _ _ _ h2, modify_eq_set _ _ _ _ h2, ← h3]
    simp [Instr.entryStore, Instr.mapUpdate, run_underlying ht, K.check w false hkey, h1, hj', h3, K.stays w hkey, MapKept.run_getObj_map hb, asInt, asIntOf, goInt, hidx, hmod, MapKept.run_setObj_map _ hb, Result.andThen]
end

section
variable {P : Program} {K : TypeId} {κ : Type} {kk : KeyK P K κ}
theorem KeyK.Mp.look {t e : TypeId} {w : World} {b n : Nat} {f : κ → Option Int} (h : kk.Mp e w b n f) (ht : P.underlying t = some (.map K e)) (he : P.underlying e = some (.int .i64)) (hz : ∀ u : World, (zeroValue e).run P u = .ok (.int .i64 0) u) {y : κ} (hy : kk.ok y) :
    (Instr.lookup t (.map (some b)) (kk.enc y) false).run P w = .ok (.int .i64 ((f y).getD 0)) w := by
  obtain ⟨D, h, s⟩ := h
  obtain ⟨c, hrun, hat, _⟩ := h.lookup_int kk.law ht he (hz w) (kk.key hy)
  rw [hrun, KeyK.says_val s hy hat]
/-- m[y] += ..: the runs of its operations, in either order of look-up and fetching. -/
theorem KeyK.Mp.entry [DecidableEq κ] {t e : TypeId} {w : World} {b n : Nat} {f : κ → Option Int} (h : kk.Mp e w b n f) (ht : P.underlying t = some (.map K e)) (he : P.underlying e = some (.int .i64)) (hz : ∀ u : World, (zeroValue e).run P u = .ok (.int .i64 0) u) (hn : n + 1 < maxLen) {y : κ} (hy : kk.ok y) {c : Int} (hc : (Lit.int .i64 c).wf = true) :
    ∃ (v : Value) (st : Nat) (w2 w3 : World), (Instr.mapEntry t (.map (some b)) (kk.enc y)).run P w = .ok (.tuple #[v, goInt st]) w2 ∧
      (Instr.lookup t (.map (some b)) (kk.enc y) false).run P w = .ok (.int .i64 ((f y).getD 0)) w ∧ (Instr.lookup t (.map (some b)) (kk.enc y) false).run P w2 = .ok (.int .i64 ((f y).getD 0)) w2 ∧
      (Instr.entryStore t (.map (some b)) (goInt st) (.int .i64 c)).run P w2 = .ok () w3 ∧ kk.Mp e w3 b (n + 2) (KeyK.upd f y c) ∧ Fr (fun i => i = b) w w3 := by
  have hl := h.look ht he hz hy
  obtain ⟨D, own, s⟩ := h
  have own' := own
  obtain ⟨es, clock, hb, F, hs, hD⟩ := own'
  have fr : ∀ o : Obj, Fr (fun i => i = b) w (setBlock w b o) := fun o => ⟨rfl, rfl, rfl, by simp [setBlock], fun i _ hi => heap_setBlock_other hb _ hi⟩
  rcases entry_run kk.law ht hz hb F (kk.key hy) with ⟨j, e0, hj, hk, hrun⟩ | ⟨hno, hrun, hup⟩
  · have hb2 : (setBlock w b (.map es clock)).heap[b]? = some (.map es clock) := heap_setBlock_same hb _
    have M2 : kk.Mp e (setBlock w b (.map es clock)) b n f := ⟨D, ⟨es, clock, hb2, F, hs, hD⟩, s⟩
    obtain ⟨D2, own2, s2⟩ := M2
    obtain ⟨w3, hrun3, own3, grow3⟩ := own2.update kk.law ht (by omega) (kk.key hy) (plainElem_int he hc)
    refine ⟨_, _, _, w3, hrun, hl, KeyK.Mp.look ⟨D2, own2, s2⟩ ht he hz hy, ?_, KeyK.Mp.mono ⟨_, own3, s2.put (KeyK.isMap_of_owns own2) hy c⟩ (by omega), ?_⟩
    · rw [store_run kk.law ht hb2 F (kk.key hy) hj hk, hrun3]
    · exact (fr _).thru (Fr.of_grown grow3) (fun i _ e => by simpa using e)
  · obtain ⟨w2, hrun2, own2, grow2⟩ := own.update kk.law ht (by omega) (kk.key hy) (plainElem_int he (by decide : (Lit.int .i64 0).wf = true))
    rw [hup] at hrun2
    injection hrun2 with _ e2
    subst e2
    have s2 := s.put (KeyK.isMap_of_owns own) hy 0
    have own2' := own2
    obtain ⟨es2, clock2, hb2, F2, hs2, hD2⟩ := own2'
    have hb3 : (setBlock w b (.map (es.push ⟨kk.enc y, .int .i64 0, clock⟩) (clock + 1))).heap[b]? = some (.map (es.push ⟨kk.enc y, .int .i64 0, clock⟩) (clock + 1)) := heap_setBlock_same hb _
    rw [hb3] at hb2
    obtain ⟨rfl, rfl⟩ : es.push ⟨kk.enc y, .int .i64 0, clock⟩ = es2 ∧ clock + 1 = clock2 := by simpa using hb2
    obtain ⟨w3, hrun3, own3, grow3⟩ := own2.update kk.law ht (by omega) (kk.key hy) (plainElem_int he hc)
    have hup2 : KeyK.upd (KeyK.upd f y 0) y c = KeyK.upd f y c := by funext z; unfold KeyK.upd; split <;> rfl
    refine ⟨_, _, _, w3, hrun, hl, ?_, ?_, KeyK.Mp.mono ⟨_, own3, hup2 ▸ s2.put (KeyK.isMap_of_owns own2) hy c⟩ (by omega), ?_⟩
    · have := KeyK.Mp.look (kk := kk) ⟨_, own2, s2⟩ ht he hz hy
      rw [this]
      have h0 : (f y).getD 0 = 0 := by
        rcases Maps.fit_look false kk.law ht (hz w) hb F (kk.key hy) with ⟨hr, _, _⟩ | ⟨e0, _, hm, hk0, _⟩
        · rw [hl] at hr
          injection hr with hr _
          injection hr with _ hr
        · exact absurd hk0 (hno e0 hm)
      rw [h0]
      simp [KeyK.upd]
    · have hj : (es.push ⟨kk.enc y, .int .i64 0, clock⟩).toList[es.size]? = some ⟨kk.enc y, .int .i64 0, clock⟩ := by simp
      rw [store_run kk.law ht hb3 F2 (kk.key hy) hj rfl, hrun3]
    · exact (fr _).thru (Fr.of_grown grow3) (fun i _ e => by simpa using e)
end
end Go.Proofs.YtmnajpkmglmipaaGreat

/- Contract of slices.SortFunc at rights, by what 'Needs' sorts by. -/
namespace Go.Proofs.YtmnajpkmglmipaaGreat
open Go.RowKit Go.Shelf Go.Sort

def sortR_ren : Go.Shelf.Ren := ⟨fun | 6 => 52 | 15 => 108 | 14 => 107 | 28 => 174 | 29 => 175 | 20 => 166 | 21 => 167 | 22 => 168 | 23 => 169 | 24 => 170 | 25 => 171 | 26 => 172 | 27 => 173 | 46 => 204 | 47 => 205 | 48 => 206 | 49 => 207 | 50 => 208 | 57 => 212 | n => n, fun | 22 => 59 | 24 => 86 | 25 => 135 | 3 => 3 | 39 => 197 | 0 => 0 | 53 => 232 | 55 => 71 | 4 => 4 | 46 => 225 | 45 => 224 | 50 => 229 | 5 => 5 | 9 => 9 | 66 => 267 | 70 => 271 | 76 => 274 | 77 => 275 | n => n, fun n => n⟩
theorem sortR : SlLaysF0.n6 Tryz.prog sortR_ren := {
  mixed := by kernel_rfl
  f6 := ⟨Tryz.f52.name, by decide, Tryz.func52.trans (congrArg some (by kernel_rfl))⟩
  f14 := ⟨Tryz.f107.name, by decide, Tryz.func107.trans (congrArg some (by kernel_rfl))⟩
  f15 := Tryz.func108.trans (congrArg some (by kernel_rfl))
  f20 := ⟨Tryz.f166.name, by decide, Tryz.func166.trans (congrArg some (by kernel_rfl))⟩
  f21 := ⟨Tryz.f167.name, by decide, Tryz.func167.trans (congrArg some (by kernel_rfl))⟩
  f22 := ⟨Tryz.f168.name, by decide, Tryz.func168.trans (congrArg some (by kernel_rfl))⟩
  f23 := ⟨Tryz.f169.name, by decide, Tryz.func169.trans (congrArg some (by kernel_rfl))⟩
  f24 := ⟨Tryz.f170.name, by decide, Tryz.func170.trans (congrArg some (by kernel_rfl))⟩
  f25 := ⟨Tryz.f171.name, by decide, Tryz.func171.trans (congrArg some (by kernel_rfl))⟩
  f26 := ⟨Tryz.f172.name, by decide, Tryz.func172.trans (congrArg some (by kernel_rfl))⟩
  f27 := ⟨Tryz.f173.name, by decide, Tryz.func173.trans (congrArg some (by kernel_rfl))⟩
  f28 := Tryz.func174.trans (congrArg some (by kernel_rfl))
  f29 := Tryz.func175.trans (congrArg some (by kernel_rfl))
  f46 := ⟨Tryz.f204.name, by decide, Tryz.func204.trans (congrArg some (by kernel_rfl))⟩
  f47 := Tryz.func205.trans (congrArg some (by kernel_rfl))
  f48 := Tryz.func206.trans (congrArg some (by kernel_rfl))
  f49 := ⟨Tryz.f207.name, by decide, Tryz.func207.trans (congrArg some (by kernel_rfl))⟩
  f50 := ⟨Tryz.f208.name, by decide, Tryz.func208.trans (congrArg some (by kernel_rfl))⟩
  f57 := ⟨Tryz.f212.name, by decide, Tryz.func212.trans (congrArg some (by kernel_rfl))⟩
  t0 := Tryz.underlying0
  a0 := Tryz.isAgg0
  z0 := Tryz.sizeOf0
  v0 := Tryz.zeroValue0
  t3 := Tryz.underlying3
  a3 := Tryz.isAgg3
  z3 := Tryz.sizeOf3
  v3 := Tryz.zeroValue3
  t4 := Tryz.underlying4
  a4 := Tryz.isAgg4
  z4 := Tryz.sizeOf4
  v4 := Tryz.zeroValue4
  t5 := Tryz.underlying5
  a5 := Tryz.isAgg5
  z5 := Tryz.sizeOf5
  v5 := Tryz.zeroValue5
  t9 := Tryz.underlying9
  a9 := Tryz.isAgg9
  z9 := Tryz.sizeOf9
  v9 := Tryz.zeroValue9
  t22 := Tryz.underlying59
  a22 := Tryz.isAgg59
  z22 := Tryz.sizeOf59
  v22 := Tryz.zeroValue59
  t25 := Tryz.underlying135
  a25 := Tryz.isAgg135
  z25 := Tryz.sizeOf135
  v25 := Tryz.zeroValue135
  t39 := Tryz.underlying197
  a39 := Tryz.isAgg197
  z39 := Tryz.sizeOf197
  v39 := Tryz.zeroValue197
  t45 := Tryz.underlying224
  a45 := Tryz.isAgg224
  z45 := Tryz.sizeOf224
  v45 := Tryz.zeroValue224
  t46 := Tryz.underlying225
  a46 := Tryz.isAgg225
  z46 := Tryz.sizeOf225
  v46 := Tryz.zeroValue225
  t50 := Tryz.underlying229
  a50 := Tryz.isAgg229
  z50 := Tryz.sizeOf229
  v50 := Tryz.zeroValue229
  t53 := Tryz.underlying232
  a53 := Tryz.isAgg232
  z53 := Tryz.sizeOf232
  v53 := Tryz.zeroValue232
  t55 := Tryz.underlying71
  a55 := Tryz.isAgg71
  z55 := Tryz.sizeOf71
  v55 := Tryz.zeroValue71
  t66 := Tryz.underlying267
  a66 := Tryz.isAgg267
  z66 := Tryz.sizeOf267
  v66 := Tryz.zeroValue267
  t70 := Tryz.underlying271
  a70 := Tryz.isAgg271
  z70 := Tryz.sizeOf271
  v70 := Tryz.zeroValue271
  t76 := Tryz.underlying274
  a76 := Tryz.isAgg274
  z76 := Tryz.sizeOf274
  v76 := Tryz.zeroValue274
  t77 := Tryz.underlying275
  a77 := Tryz.isAgg275
  z77 := Tryz.sizeOf275
  v77 := Tryz.zeroValue275 }
theorem cmpR_iff (x y : RightT) : cmpR x y < 0 ↔ kLt (kOf x) (kOf y) := by
  unfold cmpR orI cmpI kLt
  show _ ↔ (x.1 < y.1 ∨ (x.1 = y.1 ∧ x.2.1 < y.2.1))
  by_cases h1 : x.1 < y.1
  · simp [h1]
  · by_cases h2 : y.1 < x.1
    · have h3 : ¬ x.1 = y.1 := by omega
      simp [h1, h2, h3]
    · have h3 : x.1 = y.1 := by omega
      by_cases h4 : x.2.1 < y.2.1
      · simp [h3, h4]
      · by_cases h5 : y.2.1 < x.2.1
        · simp [h3, h4, h5]
        · simp [h3, h4, h5]
theorem cmpR_lt (x y : RightT) : ltOf cmpR x y = decide (kLt (kOf x) (kOf y)) := decide_eq_decide.2 (cmpR_iff x y)
theorem swoR : SWO (ltOf cmpR) where
  irrefl x := by rw [cmpR_lt]; simpa using kLt_irrefl _
  trans x y z h1 h2 := by rw [cmpR_lt] at *; simp at *; exact kLt_trans h1 h2
  ntrans x y z h1 h2 := by rw [cmpR_lt] at *; simp at *; unfold kLt at *; omega
theorem cmpLaysR (blk off size : Nat) (w : World) : CmpLays Tryz.prog 53 #[] encR 3 cmpR blk off size w :=
  fun _ _ _ _ x y => byKind_c x y _
theorem sortWorldK_fr {α : Type} [Inhabited α] (enc : α → List Value) (k : Nat) (w : World) (g off m : Nat) (dk : Array α) (os : Array Obj) : Fr (fun j => j = g) w (sortWorldK enc k w g off m dk os) := by
  refine ⟨rfl, rfl, rfl, ?_, ?_⟩
  · simp [sortWorldK, grow, putRowK, putRow, mapBlock]
  · intro j hj hn
    simp only [sortWorldK, grow, putRowK, putRow, mapBlock]
    rw [Array.getElem?_append_left (by simpa using hj), Array.getElem?_modify, if_neg (fun e => hn e.symm)]
    rfl
theorem sortWorldK_blk {α : Type} [Inhabited α] (enc : α → List Value) (k : Nat) (w : World) (g off m : Nat) (dk : Array α) (os : Array Obj) {T : TypeId} {cur : Array Value} (h : w.heap[g]? = some (.cells cur T (0, 0))) :
    ∃ cur' : Array Value, (sortWorldK enc k w g off m dk os).heap[g]? = some (.cells cur' T (0, 0)) ∧ cur'.size = cur.size := by
  have hl := (Array.getElem?_eq_some_iff.1 h).1
  refine ⟨putCells id off (flatK enc k dk) cur, ?_, by simp [putCells]⟩
  simp only [sortWorldK, grow, putRowK, putRow, mapBlock]
  rw [Array.getElem?_append_left (by simpa using hl), Array.getElem?_modify, if_pos rfl]
  have h2 : (Go.Sort.ahead w m).heap[g]? = some (.cells cur T (0, 0)) := h
  rw [h2]
  rfl
theorem sort_c (g cap : Nat) (xs : List RightT) (w : World) (hc : ∀ i (h : i < xs.length) (r : Nat), r < 3 → w.cell? ⟨g, i * 3 + r, none⟩ = (encR xs[i])[r]?) (hf : ∀ j, w.frozen? ⟨g, j, none⟩ = false)
    (hg : g < w.heap.size) (hl : xs.length < 4611686018427387904) (hd : xs.Pairwise (fun a b => kOf a ≠ kOf b)) :
    Calls Tryz.prog 52 #[.slice (some ⟨g, 0, none⟩) xs.length cap, .func (.func 53) #[] #[]] w fun e w' => e = .returned (.tuple #[]) ∧ ∃ ys : List RightT, ys.Perm xs ∧ Rising ys ∧
      (∀ i (h : i < ys.length) (r : Nat), r < 3 → w'.cell? ⟨g, i * 3 + r, none⟩ = (encR ys[i])[r]?) ∧ Fr (fun j => j = g) w w' ∧ ∀ (T : TypeId) (cur : Array Value), w.heap[g]? = some (.cells cur T (0, 0)) → ∃ cur' : Array Value, w'.heap[g]? = some (.cells cur' T (0, 0)) ∧ cur'.size = cur.size := by
  have eg : ∀ args w, (callFunc 53 args).run Tryz.prog w = .ok (.enter 53 args) w := enters_of Tryz.func53 (by kernel_rfl) rfl
  have hlen3 : ∀ x : RightT, (encR x).length = 3 := fun _ => rfl
  have hH : HoldsK encR 3 w g 0 xs.toArray := by
    intro j hj
    rw [size_flatK] at hj
    have hj' : j < xs.length * 3 := by simpa using hj
    have h1 : j / 3 < xs.length := by omega
    have h2 : j % 3 < 3 := by omega
    refine ⟨?_, hf _⟩
    rw [get_flatK _ _ _ _ hj, Nat.zero_add]
    have := hc (j / 3) h1 (j % 3) h2
    rw [show j / 3 * 3 + j % 3 = j by omega] at this
    rw [this]
    have h3 : xs.toArray[j / 3]! = xs[j / 3] := by simp [h1]
    rw [h3, List.getElem?_eq_getElem (by rw [hlen3]; exact h2)]
    simp [hlen3, h2]
  refine (AnyQ.slices_SortFunc sortR 3 Tryz.isAgg86 Tryz.sizeOf86 encR hlen3 (fun x v hv => by simp [encR] at hv; rcases hv with rfl | rfl | rfl <;> rfl) cmpR swoR 53 #[] g 0 cap xs.toArray w eg (cmpLaysR g 0 _ w) hH hg (by simpa using hl)).mono ?_
  rintro e w' ⟨rfl, d', n, os, ⟨hs, _, hp⟩, hsd, rfl⟩
  have hsz : d'.size = xs.length := by simpa using hs
  have hperm : d'.toList.Perm xs := by
    have h1 : (d'.extract 0 xs.toArray.size).toList = d'.toList := by simp [← hsz]
    have h2 : (xs.toArray.extract 0 xs.toArray.size).toList = xs := by simp
    rw [h1, h2] at hp
    exact hp
  refine ⟨rfl, d'.toList, hperm, ?_, ?_, sortWorldK_fr _ _ _ _ _ _ _ _, fun T cur h => sortWorldK_blk _ _ _ _ _ _ _ _ h⟩
  · have hd2 : d'.toList.Pairwise (fun a b => kOf a ≠ kOf b) := (hperm.pairwise_iff (fun {_ _} h => Ne.symm h)).2 hd
    rw [Rising, List.pairwise_iff_getElem]
    intro i j hi hj hij
    have h1 := List.pairwise_iff_getElem.1 hd2 i j hi hj hij
    have hj' : j < d'.size := by simpa using hj
    have h2 := hsd i j (Nat.zero_le _) hij (by rw [← hs]; exact hj')
    rw [cmpR_lt, getElem!_pos d' j hj', getElem!_pos d' i (by omega)] at h2
    rcases kLt_tri _ _ h1 with h | h
    · exact h
    · simp at h2
      exact absurd (by simpa using h) h2
  · intro i hi r hr
    have hi' : i < d'.size := by simpa using hi
    have hH' := holdsK_sortWorldK encR 3 w g 0 n xs.toArray d' os hg hH (by simpa using hs)
    have := (hH'.cell hi' hr).1
    rw [getElem!_pos d' i hi', Nat.zero_add, getElem!_pos (encR d'[i]) r (by rw [hlen3]; exact hr)] at this
    rw [this, List.getElem?_eq_getElem (by rw [hlen3]; exact hr)]
    simp
end Go.Proofs.YtmnajpkmglmipaaGreat

/- append of one element to a slice that the call owns: up to three halves of 2^47 bytes. -/
namespace Go.Proofs.YtmnajpkmglmipaaGreat
open Go.RowKit

theorem nodup_le {κ : Type} [DecidableEq κ] : ∀ (l m : List κ), l.Nodup → (∀ x ∈ l, x ∈ m) → l.length ≤ m.length
  | [], m, _, _ => Nat.zero_le _
  | x :: l, m, h, hs => by
    obtain ⟨h1, h2⟩ := List.nodup_cons.1 h
    have hx := hs x List.mem_cons_self
    have ih := nodup_le l (m.erase x) h2 (fun y hy => (List.mem_erase_of_ne (fun e => h1 (by subst e; exact hy))).2 (hs y (List.mem_cons_of_mem _ hy)))
    rw [List.length_erase_of_mem hx] at ih
    have := List.length_pos_of_mem hx
    simp only [List.length_cons]
    omega
theorem cap_fits {k bytes : Nat} (h : (k + 1) * bytes ≤ 211106232532992) (hb : bytes ≤ 4096) (hn : ¬ (k + 1) * bytes ≤ 140737488355328) : Builtin.nextslicecap (k + 1) k * bytes ≤ 281474976710656 := by
  have hk : 256 ≤ k := by
    apply Classical.byContradiction
    intro h'
    have := Nat.mul_le_mul (show k + 1 ≤ 256 by omega) hb
    omega
  have h4 : 4 * Builtin.nextslicecap (k + 1) k ≤ 5 * k + 768 := by
    unfold Builtin.nextslicecap
    rw [if_neg (by omega), if_neg (by omega)]
    unfold Builtin.growBy
    rw [if_neg (by omega)]
    unfold Builtin.growBy
    rw [if_pos (by omega)]
    omega
  have h5 : 4 * Builtin.nextslicecap (k + 1) k * bytes ≤ (5 * k + 768) * bytes := Nat.mul_le_mul_right _ h4
  rw [Nat.add_mul, Nat.mul_assoc, Nat.mul_assoc] at h5
  rw [Nat.add_mul] at h
  omega

section
variable {P : Program} (w : World)
theorem run_append_one (base : Nat) (t ty e : TypeId) (i : TypeInfo) (z : Value) (size bytes : Nat) (ht : P.underlying t = some (.slice e)) (hi : P.info? e = some i) (hz : i.zero = some z)
    (hsize : i.size = size) (hby : i.bytes = bytes) (hzs : z.cells.size = size) (hsz : 0 < size) (hbs : bytes ≤ 4096)
    (v : Value) (k : Nat) (xs : List Value) (hown : w.ownsRow base e size v k xs) (ad : Addr) (c : Nat) (news : List Value) (hl : news.length = size) (hnews : ∀ j u, news[j]? = some u → w.cell? (ad.add j) = some u) (h1 : ∀ u ∈ news, u.oneCell' = true)
    (h63 : k + 1 ≤ maxLen) (hbytes : (k + 1) * bytes ≤ 211106232532992) (hbase : base ≤ w.heap.size) :
    ∃ v' w', (Builtin.append_ #[t, t] ty #[v, .slice (some ad) 1 c]).run P w = .ok v' w' ∧ w'.ownsRow base e size v' (k + 1) (xs ++ news) ∧ w.grownBy w' v.ownBlock ∧ (v' = .slice none 0 0 ↔ v = .slice none 0 0 ∧ 1 = 0) := by
  have hl1 : news.length = 1 * size := by rw [Nat.one_mul]; exact hl
  by_cases hsm : (k + 1) * bytes ≤ 140737488355328
  · exact run_append_own (P := P) w base t ty e i z size bytes ht hi hz hsize hby hzs hsz v k xs hown ad 1 c news hl1 hnews h1 h63 hsm hbase
  · have hlen : (xs ++ news).length = (k + 1) * size := by rw [List.length_append, hown.1, hl, Nat.add_mul, Nat.one_mul]
    rcases hown.2 with ⟨_, rfl⟩ | ⟨g, cap, cur, rfl, hbg, hg, hnc, hcm, hcs, htake⟩
    · omega
    · by_cases hroom : k + 1 ≤ cap
      · obtain ⟨w', hrun, r1, r2⟩ := run_append_fits (P := P) w base t ty e i size ht hi hsize g k cap xs hown ad 1 c news hl1 hnews h1 hroom
        exact ⟨_, w', hrun, r1, r2, by simp⟩
      · obtain rfl : cap = k := by omega
        subst hsize
        subst hby
        have hr := run_append_grow (P := P) w t ty e i z ht hi hz ⟨g, 0, none⟩ cap cap xs hown.1 (hown.cells (g := g) rfl) ad 1 c news hl1 hnews (by omega) (by simp only [maxLen] at h63; omega) (cap_fits hbytes hbs hsm)
        have hge := grownCap_ge w (cap + 1) cap e
        refine ⟨_, _, hr, ⟨hlen, .inr ⟨w.heap.size, _, _, rfl, hbase, heap_alloc_new w.drew _, hge, grownCap_le_maxLen w (cap + 1) cap e h63, ?_, ?_⟩⟩, ⟨rfl, rfl, rfl, by simp, fun j hj _ => heap_alloc_old w.drew _ hj⟩, by simp⟩
        · simp only [Array.size_append, List.size_toArray, size_zeroCells, hzs, hown.1, hl]
          rw [Nat.sub_mul, Nat.add_mul, Nat.one_mul]
          have := Nat.mul_le_mul_right i.size hge
          rw [Nat.add_mul, Nat.one_mul] at this
          omega
        · simp only [Array.toList_append, List.append_assoc]
          rw [← List.append_assoc, ← hlen]
          exact List.take_left
end
theorem wpList_append_one {P : Program} (w : World) {ops : Array Oper} {rest : List Oper} {o : Oper} {a : Act} {Q : Exit → Act → World → Prop}
    (hg : o.guard = none) (s x : Operand) (t : TypeId) (hop : o.op = Op.call { callee := Callee.builtin Builtin.append, args := #[s, x], argTypes := #[t, t] })
    (base : Nat) (e : TypeId) (i : TypeInfo) (z : Value) (size bytes : Nat) (h1 : P.underlying t = some (.slice e)) (h2 : P.info? e = some i) (h3 : i.zero = some z) (h4 : i.size = size) (h5 : i.bytes = bytes) (h6 : z.cells.size = size) (h7 : 0 < size) (h8 : bytes ≤ 4096)
    (v : Value) (k : Nat) (xs : List Value) (hs : a.eval s = v) (hown : w.ownsRow base e size v k xs) (ad : Addr) (c : Nat) (news : List Value) (hx : a.eval x = .slice (some ad) 1 c) (hn : news.length = size)
    (hc : ∀ j u, news[j]? = some u → w.cell? (ad.add j) = some u) (h1c : ∀ u ∈ news, u.oneCell' = true) (b1 : k + 1 ≤ maxLen) (b2 : (k + 1) * bytes ≤ 211106232532992) (b3 : base ≤ w.heap.size)
    (hK : ∀ v' w', w'.ownsRow base e size v' (k + 1) (xs ++ news) → w.grownBy w' v.ownBlock → wpList P ops Q rest (a.put o.dst v') w') :
    wpList P ops Q (o :: rest) a w := by
  refine wpList_plain hg fun K hK' => ?_
  obtain ⟨v', w', hrun, r1, r2, _⟩ := run_append_one (P := P) w base t o.type e i z size bytes h1 h2 h3 h4 h5 h6 h7 h8 v k xs hown ad c news hn hc h1c b1 b2 b3
  unfold Oper.wp
  simp [execOp, hop, resolve, invoke, builtin, hs, hx, hrun, Result.andThen]
  exact hK' _ _ (hK v' w' r1 r2)
theorem step_append_one {P : Program} {ops : Array Oper} {o : Oper} {a : Act} {w : World} {K : Act → World → Prop} {Q : Exit → Act → World → Prop} {E : Prop}
    (hg : o.guard = none) (s x : Operand) (t : TypeId) (hop : o.op = Op.call { callee := Callee.builtin Builtin.append, args := #[s, x], argTypes := #[t, t] })
    (base : Nat) (e : TypeId) (i : TypeInfo) (z : Value) (size bytes : Nat) (h1 : P.underlying t = some (.slice e)) (h2 : P.info? e = some i) (h3 : i.zero = some z) (h4 : i.size = size) (h5 : i.bytes = bytes) (h6 : z.cells.size = size) (h7 : 0 < size) (h8 : bytes ≤ 4096)
    (v : Value) (k : Nat) (xs : List Value) (hs : a.eval s = v) (hown : w.ownsRow base e size v k xs) (ad : Addr) (c : Nat) (news : List Value) (hx : a.eval x = .slice (some ad) 1 c) (hn : news.length = size)
    (hc : ∀ j u, news[j]? = some u → w.cell? (ad.add j) = some u) (h1c : ∀ u ∈ news, u.oneCell' = true) (b1 : k + 1 ≤ maxLen) (b2 : (k + 1) * bytes ≤ 211106232532992) (b3 : base ≤ w.heap.size)
    (hK : ∀ v' w', w'.ownsRow base e size v' (k + 1) (xs ++ news) → w.grownBy w' v.ownBlock → K (a.put o.dst v') w') :
    if Region.wanted o (yielded ops a.tmps) = true then Oper.wp P o a w K Q else E := by
  have hw : Region.wanted o (yielded ops a.tmps) = true := by simp [Region.wanted, hg]
  rw [if_pos hw]
  obtain ⟨v', w', hrun, r1, r2, _⟩ := run_append_one (P := P) w base t o.type e i z size bytes h1 h2 h3 h4 h5 h6 h7 h8 v k xs hown ad c news hn hc h1c b1 b2 b3
  unfold Oper.wp
  simp [execOp, hop, resolve, invoke, builtin, hs, hx, hrun, Result.andThen]
  exact hK _ _ r1 r2
theorem wpListIn_append_one {F : Fence} {n : Nat} {P : Program} (w : World) {ops : Array Oper} {rest : List Oper} {o : Oper} {a : Act} {Q : Exit → Act → World → Prop}
    (hg : o.guard = none) (s x : Operand) (t : TypeId) (hop : o.op = Op.call { callee := Callee.builtin Builtin.append, args := #[s, x], argTypes := #[t, t] })
    (base : Nat) (e : TypeId) (i : TypeInfo) (z : Value) (size bytes : Nat) (h1 : P.underlying t = some (.slice e)) (h2 : P.info? e = some i) (h3 : i.zero = some z) (h4 : i.size = size) (h5 : i.bytes = bytes) (h6 : z.cells.size = size) (h7 : 0 < size) (h8 : bytes ≤ 4096)
    (v : Value) (k : Nat) (xs : List Value) (hs : a.eval s = v) (hown : w.ownsRow base e size v k xs) (ad : Addr) (c : Nat) (news : List Value) (hx : a.eval x = .slice (some ad) 1 c) (hn : news.length = size)
    (hc : ∀ j u, news[j]? = some u → w.cell? (ad.add j) = some u) (h1c : ∀ u ∈ news, u.oneCell' = true) (b1 : k + 1 ≤ maxLen) (b2 : (k + 1) * bytes ≤ 211106232532992) (b3 : base ≤ w.heap.size)
    (hK : ∀ v' w', w'.ownsRow base e size v' (k + 1) (xs ++ news) → w.grownBy w' v.ownBlock → wpListIn F n P ops Q rest (a.put o.dst v') w') :
    wpListIn F n P ops Q (o :: rest) a w := by
  refine wpListIn_plain hg fun K hK' => ?_
  obtain ⟨v', w', hrun, r1, r2, _⟩ := run_append_one (P := P) w base t o.type e i z size bytes h1 h2 h3 h4 h5 h6 h7 h8 v k xs hown ad c news hn hc h1c b1 b2 b3
  unfold Oper.wpIn
  refine ⟨?_, ?_⟩
  · simp [Oper.about, hop, resolve, Target.leads, Sem.run_pure]
  · rw [Oper.semAt_plain F _ _ (by rw [hop]; intro c hc'; cases hc')]
    simp [execOp, hop, resolve, invoke, builtin, hs, hx, hrun, Result.andThen]
    exact hK' _ _ (hK v' w' r1 r2)
end Go.Proofs.YtmnajpkmglmipaaGreat
