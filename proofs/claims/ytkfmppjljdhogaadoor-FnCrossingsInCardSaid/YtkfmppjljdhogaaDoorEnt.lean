/- 'm[k] += v' on a map of the call's own: the entry is found or laid; then the store into it is the store at the key. -/
import Derived.Test.YtkfmppjljdhogaaDoorKit
import Derived.Maps.OwnOps
import Derived.Maps.OwnSet
import Derived.WideKeyEntry
namespace Go.Proofs.YtkfmppjljdhogaaDoor
open Go.RowKit
open Go.Maps (Keyed)
open Go.ChangeMaps Go.WideElems

section
variable {H : Type} {P : Program} {w : World} {t k e : TypeId} {b n : Nat} {D : DataW H} {R : Value → Option (DataW H × List MemPlace)}

theorem ownsMap_of_heap {w' : World} (h : w.ownsMap P k R b n D) (he : w'.heap[b]? = w.heap[b]?) : w'.ownsMap P k R b n D := by
  obtain ⟨es, clock, hb, r⟩ := h
  exact ⟨es, clock, he.trans hb, r⟩

/-- What 'm[k] op= v' needs: the entry at the key, what it holds, and that whatever is stored into it is stored at the key. -/
structure Entry (P : Program) (t k e : TypeId) (q : IntKind) (b n : Nat) (D : DataW H) (key : Value) (kl : Lit) (w w1 : World) (c : Int) (st : Int) : Prop where
  look : (Instr.lookup t (.map (some b)) key false).run P w = .ok (.int q c) w
  entry : (Instr.mapEntry t (.map (some b)) key).run P w = .ok (.tuple #[.int q c, .int .i64 st]) w1
  look1 : (Instr.lookup t (.map (some b)) key false).run P w1 = .ok (.int q c) w1
  at_ : D.atKey kl (.lit (.int q 0)) = .lit (.int q c)
  wf : (Lit.int q c).wf = true
  grown : w.grownBy w1 (some b)
  same : w1.heap.size = w.heap.size
  store : ∀ (w2 : World) (a : Int), w2.heap[b]? = w1.heap[b]? → (Lit.int q a).wf = true → ∃ w3, (Instr.entryStore t (.map (some b)) (.int .i64 st) (.int q a)).run P w2 = .ok () w3 ∧ w3.ownsMap P k (plainElem P e) b (n + 1) (D.put kl (.lit (.int q a))) ∧ w2.grownBy w3 (some b) ∧ w3.heap.size = w2.heap.size

theorem setBlock_grown {es : Array MapEntry} {clock : Nat} (hb : w.heap[b]? = some (.map es clock)) (o : Obj) : w.grownBy (setBlock w b o) (some b) :=
  ⟨rfl, rfl, rfl, by simp [setBlock], fun i _ hi => heap_setBlock_other hb _ (fun e => hi (by rw [e]))⟩

set_option maxHeartbeats 1000000 in
theorem entry_of {q : IntKind} (h : w.ownsMap P k (plainElem P e) b n D) (K : Keyed P k) (ht : P.underlying t = some (.map k e)) (he : P.underlying e = some (.int q)) (hz : ∀ u : World, (zeroValue e).run P u = .ok (.int q 0) u) (hn : n + 1 < maxLen)
    {key : Value} {kl : Lit} (hkey : keyOf P k key = some kl) : ∃ w1 c st, Entry P t k e q b n D key kl w w1 c st := by
  have hw0 : (Lit.int q 0).wf = true := by cases q <;> decide
  have h' := h
  obtain ⟨c, hlook, hat, hwf⟩ := h.lookup_int K ht he (hz w) hkey
  obtain ⟨es, clock, hb, F, hs, hD⟩ := h
  obtain ⟨s1, s2, _⟩ := F.stamped
  -- whatever the store into the entry leaves is what the store at the key leaves
  have fin : ∀ (es1 : Array MapEntry) (clock1 : Nat) (st : Int),
      (∀ (w2 : World) (val : Value), w2.heap[b]? = some (.map es1 clock1) → ∃ es' clock', (Instr.entryStore t (.map (some b)) (.int .i64 st) val).run P w2 = .ok () (setBlock w2 b (.map es' clock')) ∧ (Instr.mapUpdate t (.map (some b)) key val).run P w = .ok () (setBlock w b (.map es' clock'))) →
      ∀ (w2 : World) (a : Int), w2.heap[b]? = some (.map es1 clock1) → (Lit.int q a).wf = true → ∃ w3, (Instr.entryStore t (.map (some b)) (.int .i64 st) (.int q a)).run P w2 = .ok () w3 ∧ w3.ownsMap P k (plainElem P e) b (n + 1) (D.put kl (.lit (.int q a))) ∧ w2.grownBy w3 (some b) ∧ w3.heap.size = w2.heap.size := by
    intro es1 clock1 st hst w2 a hw2 hwa
    obtain ⟨es', clock', r1, r2⟩ := hst w2 (.int q a) hw2
    obtain ⟨w', r3, own, _⟩ := h'.update K ht (by omega) hkey (plainElem_int he hwa)
    rw [r2] at r3
    have e3 : setBlock w b (.map es' clock') = w' := by injection r3
    refine ⟨_, r1, ownsMap_of_heap own ?_, setBlock_grown hw2 _, by simp [setBlock]⟩
    rw [heap_setBlock_same hw2, ← e3, heap_setBlock_same hb]
  rcases K.find w hkey es.toList F.keys with ⟨h1, h2⟩ | ⟨j, e0, h1, h2, h3⟩
  · -- the key is not there
    have hpush : (Instr.mapUpdate t (.map (some b)) key (.int q 0)).run P w = .ok () (setBlock w b (.map (es.push ⟨key, .int q 0, clock⟩) (clock + 1))) := by
      simp [Instr.mapUpdate, run_underlying ht, MapKept.run_getObj_map hb, K.check w false hkey, h1, MapKept.run_setObj_map _ hb, Result.andThen, setBlock]
    obtain ⟨w', r3, own, _⟩ := h'.update K ht (by omega) hkey (plainElem_int he hw0)
    rw [hpush] at r3
    have e3 : setBlock w b (.map (es.push ⟨key, .int q 0, clock⟩) (clock + 1)) = w' := by injection r3
    have hc0 : c = 0 := by
      have hl : (Instr.lookup t (.map (some b)) key false).run P w = .ok (.int q 0) w := by
        simp [Instr.lookup, run_underlying ht, MapKept.run_getObj_map hb, K.check w es.isEmpty hkey, h1, hz, Result.andThen]
      rw [hl] at hlook
      injection hlook with hv _
      injection hv with _ hv
      exact hv.symm
    subst hc0
    rw [← e3] at own
    obtain ⟨c1, hlook1, hat1, _⟩ := own.lookup_int K ht he (hz _) hkey
    have hc1 : c1 = 0 := by
      rw [Maps.atKey_put_same h'.isMap (K.key hkey)] at hat1
      injection hat1 with hv
      injection hv with _ hv
      exact hv.symm
    subst hc1
    refine ⟨setBlock w b (.map (es.push ⟨key, .int q 0, clock⟩) (clock + 1)), 0, ((clock : Nat) : Int), hlook, ?_, hlook1, hat, hwf, setBlock_grown hb _, by simp [setBlock], ?_⟩
    · simp [Instr.mapEntry, run_underlying ht, MapKept.run_getObj_map hb, K.check w false hkey, h1, hz, MapKept.run_setObj_map _ hb, Result.andThen, setBlock, goInt]
    · intro w2 a hw2 hwa
      rw [heap_setBlock_same hb] at hw2
      refine fin (es.push ⟨key, .int q 0, clock⟩) (clock + 1) _ (fun w2 val hw2 => ⟨es.push ⟨key, val, clock⟩, clock + 1, ?_, ?_⟩) w2 a hw2 hwa
      · have hidx : (es.push ⟨key, .int q 0, clock⟩).findIdx? (fun x => ((x.born : Nat) : Int) == ((clock : Nat) : Int)) = some es.size := by
          rw [findIdx_arr]
          refine findIdx_born (l := (es.push ⟨key, .int q 0, clock⟩).toList) (j := es.size) (e0 := ⟨key, .int q 0, clock⟩) ?_ (by simp)
          rw [Array.toList_push, List.map_append]
          refine List.nodup_append.2 ⟨s2, by simp, fun x hx y hy exy => ?_⟩
          obtain rfl := List.mem_singleton.1 hy
          obtain ⟨z, hz1, rfl⟩ := List.mem_map.1 hx
          have := s1 z hz1
          omega
        have hmod : (es.push ⟨key, .int q 0, clock⟩).modify es.size (fun x => { x with val := val }) = es.push ⟨key, val, clock⟩ := by
          apply Array.ext'
          rw [Array.toList_modify, Array.toList_push, Array.toList_push, ← Array.length_toList, modify_last]
        simp [Instr.entryStore, MapKept.run_getObj_map hw2, asInt, asIntOf, hidx, hmod, MapKept.run_setObj_map _ hw2, Result.andThen, setBlock]
      · simp [Instr.mapUpdate, run_underlying ht, MapKept.run_getObj_map hb, K.check w false hkey, h1, MapKept.run_setObj_map _ hb, Result.andThen, setBlock]
  · -- the key is there
    have hj : es[j]? = some e0 := by simpa using h2
    have hval : e0.val = .int q c := by
      have hl : (Instr.lookup t (.map (some b)) key false).run P w = .ok e0.val w := by
        simp [Instr.lookup, run_underlying ht, MapKept.run_getObj_map hb, K.check w es.isEmpty hkey, h1, Result.andThen]
      rw [hl] at hlook
      injection hlook
    have hkey0 : ({ e0 with key := key } : MapEntry) = e0 := by rw [← h3]
    have hsame : es.modify j (fun x => { x with key := key }) = es := by
      apply Array.ext'
      rw [Array.toList_modify, modify_eq_set _ _ _ _ h2, hkey0]
      exact set_self _ _ _ h2
    have hself : setBlock w b (.map es clock) = w := by
      unfold setBlock
      have : w.heap.setIfInBounds b (.map es clock) = w.heap := by
        apply Array.ext_getElem?
        intro i
        by_cases hi : i = b
        · subst hi; rw [(MapKept.heap_set hb).1, hb]
        · exact (MapKept.heap_set hb).2 i hi
      rw [this]
    refine ⟨w, c, ((e0.born : Nat) : Int), hlook, ?_, hlook, hat, hwf, World.grownBy.refl _ _, rfl, ?_⟩
    · have := hself
      simp [Instr.mapEntry, run_underlying ht, MapKept.run_getObj_map hb, K.check w false hkey, h1, hj, h3, K.stays w hkey, hsame, MapKept.run_setObj_map _ hb, Result.andThen, goInt, hval]
      simpa [setBlock] using this
    · intro w2 a hw2 hwa
      rw [hb] at hw2
      refine fin es clock _ (fun w2 val hw2 => ⟨es.modify j (fun x => { x with key := key, val := val }), clock, ?_, ?_⟩) w2 a hw2 hwa
      · have hidx : es.findIdx? (fun x => ((x.born : Nat) : Int) == ((e0.born : Nat) : Int)) = some j := by
          rw [findIdx_arr]
          exact findIdx_born s2 h2
        have hmod : es.modify j (fun x => { x with val := val }) = es.modify j (fun x => { x with key := key, val := val }) := by
          apply Array.ext'
          rw [Array.toList_modify, Array.toList_modify, modify_eq_set _ _ _ _ h2, modify_eq_set _ _ _ _ h2, ← h3]
        simp [Instr.entryStore, MapKept.run_getObj_map hw2, asInt, asIntOf, hidx, hmod, MapKept.run_setObj_map _ hw2, Result.andThen, setBlock]
      · simp [Instr.mapUpdate, run_underlying ht, MapKept.run_getObj_map hb, K.check w false hkey, h1, hj, h3, K.stays w hkey, MapKept.run_setObj_map _ hb, Result.andThen, setBlock]
end
end Go.Proofs.YtkfmppjljdhogaaDoor
