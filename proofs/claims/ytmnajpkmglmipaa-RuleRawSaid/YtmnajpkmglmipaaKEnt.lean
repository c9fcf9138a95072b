/- m[k] += n at a map with integer elements: its entry is fetched, and stored. -/
import Derived.Test.YtmnajpkmglmipaaKMap
import Derived.WideKeyEntry
namespace Go.Proofs.Ytmnajpkmglmipaa
open Go.RowKit Go.Maps Go.ChangeShapes Go.WideShapes Go.MapKept Go.ChangeMaps
open Go.WideElems (Fit rd rg pl findIdx_born findIdx_arr modify_last set_self)

section
variable {H : Type} {P : Program} {w : World} {t k e : TypeId} {R : Value → Option (DataW H × List MemPlace)} {b : Nat} {es : Array MapEntry} {clock : Nat}

/-- The entry of a key is fetched: it is there, or is laid with the zero value. -/
theorem entry_run (K : Keyed P k) (ht : P.underlying t = some (.map k e)) {z : Value} (hz : ∀ u : World, (zeroValue e).run P u = .ok z u) (hb : w.heap[b]? = some (.map es clock)) (F : Fit P k R es clock) {key : Value} {kl : Lit} (hkey : keyOf P k key = some kl) :
    (∃ (j : Nat) (e0 : MapEntry), es.toList[j]? = some e0 ∧ e0.key = key ∧ (Instr.mapEntry t (.map (some b)) key).run P w = .ok (.tuple #[e0.val, goInt e0.born]) (setBlock w b (.map es clock))) ∨
    ((∀ x ∈ es.toList, x.key ≠ key) ∧ (Instr.mapEntry t (.map (some b)) key).run P w = .ok (.tuple #[z, goInt clock]) (setBlock w b (.map (es.push ⟨key, z, clock⟩) (clock + 1))) ∧
      (Instr.mapUpdate t (.map (some b)) key z).run P w = .ok () (setBlock w b (.map (es.push ⟨key, z, clock⟩) (clock + 1)))) := by
  rcases K.find w hkey es.toList F.keys with ⟨h1, h2⟩ | ⟨j, e0, h1, h2, h3⟩
  · refine .inr ⟨h2, ?_, ?_⟩
    · simp [Instr.mapEntry, run_underlying ht, MapKept.run_getObj_map hb, K.check w false hkey, h1, hz, MapKept.run_setObj_map _ hb, Result.andThen, setBlock]
    · simp [Instr.mapUpdate, run_underlying ht, MapKept.run_getObj_map hb, K.check w false hkey, h1, MapKept.run_setObj_map _ hb, Result.andThen, setBlock]
  · have hj : es[j]? = some e0 := by simpa using h2
    have hsame : es.modify j (fun e => { e with key := key }) = es := by
      apply Array.ext'
      rw [Array.toList_modify, modify_eq_set _ _ _ _ h2]
      have : ({ e0 with key := key } : MapEntry) = e0 := by rw [← h3]
      rw [this]
      exact set_self _ _ _ h2
    refine .inl ⟨j, e0, h2, h3, ?_⟩
    simp [Instr.mapEntry, run_underlying ht, MapKept.run_getObj_map hb, K.check w false hkey, h1, hj, h3, K.stays w hkey, hsame, MapKept.run_setObj_map _ hb, Result.andThen, setBlock]
/-- A store into a fetched entry is a store at its key. -/
theorem store_run (K : Keyed P k) (ht : P.underlying t = some (.map k e)) (hb : w.heap[b]? = some (.map es clock)) (F : Fit P k R es clock) {key val : Value} {kl : Lit} (hkey : keyOf P k key = some kl) {j : Nat} {e0 : MapEntry} (hj : es.toList[j]? = some e0) (hk : e0.key = key) :
    (Instr.entryStore t (.map (some b)) (goInt e0.born) val).run P w = (Instr.mapUpdate t (.map (some b)) key val).run P w := by
  obtain ⟨_, s2, s3⟩ := (stamped_iff es clock).1 F.stamped
  have s2' : (es.toList.map (·.born)).Nodup := F.stamped.2.1
  rcases K.find w hkey es.toList F.keys with ⟨_, h2⟩ | ⟨j', e1, h1, h2, h3⟩
  · exact absurd hk (h2 e0 (List.mem_of_getElem? hj))
  · obtain rfl : e1 = e0 := entry_eq_of_key s3 (List.mem_of_getElem? h2) (List.mem_of_getElem? hj) (h3.trans hk.symm)
    obtain rfl : j' = j := by
      have q1 := findIdx_born s2' h2
      have q2 := findIdx_born s2' hj
      rw [q1] at q2; exact Option.some.inj q2
    have hidx : es.findIdx? (fun e => ((e.born : Nat) : Int) == ((e1.born : Nat) : Int)) = some j' := by
      rw [findIdx_arr]
      exact findIdx_born s2' h2
    have hj' : es[j']? = some e1 := by simpa using h2
    have hmod : es.modify j' (fun e => { e with val := val }) = es.modify j' (fun e' => { e' with key := key, val := val }) := by
      apply Array.ext'
      rw [Array.toList_modify, Array.toList_modify, modify_eq_set _ _ _ _ h2, modify_eq_set _ _ _ _ h2, ← h3]
    simp [Instr.entryStore, Instr.mapUpdate, run_underlying ht, K.check w false hkey, h1, hj', h3, K.stays w hkey, MapKept.run_getObj_map hb, asInt, asIntOf, goInt, hidx, hmod, MapKept.run_setObj_map _ hb, Result.andThen]
end

section
variable {P : Program} {K : TypeId} {κ : Type} {kk : KeyK P K κ}
theorem KeyK.Mp.look {t e : TypeId} {w : World} {b n : Nat} {f : κ → Option Int} (h : kk.Mp e w b n f) (ht : P.underlying t = some (.map K e)) (he : P.underlying e = some (.int .i64)) (hz : ∀ u : World, (zeroValue e).run P u = .ok (.int .i64 0) u) {y : κ} (hy : kk.ok y) :
    (Instr.lookup t (.map (some b)) (kk.enc y) false).run P w = .ok (.int .i64 ((f y).getD 0)) w := by
  obtain ⟨D, h, s⟩ := h
  obtain ⟨c, hrun, hat, _⟩ := h.lookup_int kk.law ht he (hz w) (kk.key hy)
  rw [hrun, KeyK.says_val s hy hat]
/-- m[y] += ..: the runs of its operations, in either order of look-up and fetching. -/
theorem KeyK.Mp.entry [DecidableEq κ] {t e : TypeId} {w : World} {b n : Nat} {f : κ → Option Int} (h : kk.Mp e w b n f) (ht : P.underlying t = some (.map K e)) (he : P.underlying e = some (.int .i64)) (hz : ∀ u : World, (zeroValue e).run P u = .ok (.int .i64 0) u) (hn : n + 1 < maxLen) {y : κ} (hy : kk.ok y) {c : Int} (hc : (Lit.int .i64 c).wf = true) :
    ∃ (v : Value) (st : Nat) (w2 w3 : World), (Instr.mapEntry t (.map (some b)) (kk.enc y)).run P w = .ok (.tuple #[v, goInt st]) w2 ∧
      (Instr.lookup t (.map (some b)) (kk.enc y) false).run P w = .ok (.int .i64 ((f y).getD 0)) w ∧ (Instr.lookup t (.map (some b)) (kk.enc y) false).run P w2 = .ok (.int .i64 ((f y).getD 0)) w2 ∧
      (Instr.entryStore t (.map (some b)) (goInt st) (.int .i64 c)).run P w2 = .ok () w3 ∧ kk.Mp e w3 b (n + 2) (KeyK.upd f y c) ∧ Fr (fun i => i = b) w w3 := by
  have hl := h.look ht he hz hy
  obtain ⟨D, own, s⟩ := h
  have own' := own
  obtain ⟨es, clock, hb, F, hs, hD⟩ := own'
  have fr : ∀ o : Obj, Fr (fun i => i = b) w (setBlock w b o) := fun o => ⟨rfl, rfl, rfl, by simp [setBlock], fun i _ hi => heap_setBlock_other hb _ hi⟩
  rcases entry_run kk.law ht hz hb F (kk.key hy) with ⟨j, e0, hj, hk, hrun⟩ | ⟨hno, hrun, hup⟩
  · have hb2 : (setBlock w b (.map es clock)).heap[b]? = some (.map es clock) := heap_setBlock_same hb _
    have M2 : kk.Mp e (setBlock w b (.map es clock)) b n f := ⟨D, ⟨es, clock, hb2, F, hs, hD⟩, s⟩
    obtain ⟨D2, own2, s2⟩ := M2
    obtain ⟨w3, hrun3, own3, grow3⟩ := own2.update kk.law ht (by omega) (kk.key hy) (plainElem_int he hc)
    refine ⟨_, _, _, w3, hrun, hl, KeyK.Mp.look ⟨D2, own2, s2⟩ ht he hz hy, ?_, KeyK.Mp.mono ⟨_, own3, s2.put (KeyK.isMap_of_owns own2) hy c⟩ (by omega), ?_⟩
    · rw [store_run kk.law ht hb2 F (kk.key hy) hj hk, hrun3]
    · exact (fr _).thru (Fr.of_grown grow3) (fun i _ e => by simpa using e)
  · obtain ⟨w2, hrun2, own2, grow2⟩ := own.update kk.law ht (by omega) (kk.key hy) (plainElem_int he (by decide : (Lit.int .i64 0).wf = true))
    rw [hup] at hrun2
    injection hrun2 with _ e2
    subst e2
    have s2 := s.put (KeyK.isMap_of_owns own) hy 0
    have own2' := own2
    obtain ⟨es2, clock2, hb2, F2, hs2, hD2⟩ := own2'
    have hb3 : (setBlock w b (.map (es.push ⟨kk.enc y, .int .i64 0, clock⟩) (clock + 1))).heap[b]? = some (.map (es.push ⟨kk.enc y, .int .i64 0, clock⟩) (clock + 1)) := heap_setBlock_same hb _
    rw [hb3] at hb2
    obtain ⟨rfl, rfl⟩ : es.push ⟨kk.enc y, .int .i64 0, clock⟩ = es2 ∧ clock + 1 = clock2 := by simpa using hb2
    obtain ⟨w3, hrun3, own3, grow3⟩ := own2.update kk.law ht (by omega) (kk.key hy) (plainElem_int he hc)
    have hup2 : KeyK.upd (KeyK.upd f y 0) y c = KeyK.upd f y c := by funext z; unfold KeyK.upd; split <;> rfl
    refine ⟨_, _, _, w3, hrun, hl, ?_, ?_, KeyK.Mp.mono ⟨_, own3, hup2 ▸ s2.put (KeyK.isMap_of_owns own2) hy c⟩ (by omega), ?_⟩
    · have := KeyK.Mp.look (kk := kk) ⟨_, own2, s2⟩ ht he hz hy
      rw [this]
      have h0 : (f y).getD 0 = 0 := by
        rcases Maps.fit_look false kk.law ht (hz w) hb F (kk.key hy) with ⟨hr, _, _⟩ | ⟨e0, _, hm, hk0, _⟩
        · rw [hl] at hr
          injection hr with hr _
          injection hr with _ hr
        · exact absurd hk0 (hno e0 hm)
      rw [h0]
      simp [KeyK.upd]
    · have hj : (es.push ⟨kk.enc y, .int .i64 0, clock⟩).toList[es.size]? = some ⟨kk.enc y, .int .i64 0, clock⟩ := by simp
      rw [store_run kk.law ht hb3 F2 (kk.key hy) hj rfl, hrun3]
    · exact (fr _).thru (Fr.of_grown grow3) (fun i _ e => by simpa using e)
end
end Go.Proofs.Ytmnajpkmglmipaa
