/- Maps in memory, read as partial functions: look-up, store, and the two halves of 'm[k] |= v'. -/
import Derived.Test.YtlfemkelnllmnaaLib
set_option linter.all false
set_option linter.unusedVariables false
set_option linter.unusedSimpArgs false
namespace Go.Proofs.Ytlfemkelnllmnaa
open Go.RowKit

section
variable {κ : Type} [DecidableEq κ]

/-- An entry of a map: its key, its value, its stamp. -/
def entryOf (ke : κ → Value) (e : κ × Value × Nat) : MapEntry := { key := ke e.1, val := e.2.1, born := e.2.2 }

def findAt (k : κ) : List (κ × Value × Nat) → Nat → Option (Nat × Value)
  | [], _ => none
  | e :: es, i => if e.1 = k then some (i, e.2.1) else findAt k es (i + 1)

/-- What the walk needs of a type of keys. -/
structure KeyLaw (P : Program) (kt : TypeId) (ke : κ → Value) : Prop where
  check : ∀ e k w, (Instr.checkKey e 10000 kt (ke k)).run P w = .ok () w
  find : ∀ (k : κ) (es : List (κ × Value × Nat)) w, (Instr.findKey kt (ke k) (es.map (entryOf ke))).run P w = .ok (findAt k es 0) w
  same : ∀ k, Instr.sameBits 10000 (ke k) (ke k) = true

/-- Block b is a map that reads as m. -/
def MapIs (w : World) (b : Nat) (ke : κ → Value) (m : κ → Option Value) : Prop :=
  ∃ (es : List (κ × Value × Nat)) (clock : Nat), w.heap[b]? = some (.map (es.map (entryOf ke)).toArray clock) ∧ (∀ e ∈ es, e.2.2 < clock) ∧ (es.map (·.2.2)).Nodup ∧ (es.map (·.1)).Nodup ∧ ∀ k, m k = (findAt k es 0).map (·.2)

def upd (m : κ → Option Value) (k : κ) (v : Value) : κ → Option Value := fun k' => if k' = k then some v else m k'

theorem set_same {α : Type} {l : List α} {n : Nat} {a : α} (h : l[n]? = some a) : l.set n a = l := by
  apply List.ext_getElem?
  intro i
  rw [List.getElem?_set]
  split
  · rename_i e; subst e
    obtain ⟨hl, _⟩ := List.getElem?_eq_some_iff.1 h
    simp [hl, ← h]
  · rfl
theorem findAt_val (k : κ) (es : List (κ × Value × Nat)) (i j : Nat) : (findAt k es i).map (·.2) = (findAt k es j).map (·.2) := by
  induction es generalizing i j with
  | nil => rfl
  | cons e es ih => unfold findAt; split; · rfl
                    · exact ih _ _
theorem findAt_some {k : κ} {es : List (κ × Value × Nat)} {i n : Nat} {v : Value} (h : findAt k es i = some (n, v)) : i ≤ n ∧ ∃ s, es[n - i]? = some (k, v, s) := by
  induction es generalizing i with
  | nil => cases h
  | cons e es ih =>
    unfold findAt at h
    split at h
    · rename_i he
      cases h
      refine ⟨Nat.le_refl _, e.2.2, ?_⟩
      simp [← he]
    · obtain ⟨h1, s, h2⟩ := ih h
      refine ⟨by omega, s, ?_⟩
      rw [show n - i = (n - (i + 1)) + 1 from by omega]
      simpa using h2
theorem findAt_none {k : κ} {es : List (κ × Value × Nat)} {i : Nat} (h : findAt k es i = none) : ∀ e ∈ es, e.1 ≠ k := by
  induction es generalizing i with
  | nil => intro e he; cases he
  | cons e es ih =>
    unfold findAt at h
    split at h
    · cases h
    · rename_i hne
      intro e' he'
      rcases List.mem_cons.1 he' with rfl | he'
      · exact hne
      · exact ih h e' he'
theorem findAt_push {k k' : κ} {es : List (κ × Value × Nat)} {i : Nat} {v : Value} {s : Nat} (hno : ∀ e ∈ es, e.1 ≠ k) :
    (findAt k' (es ++ [(k, v, s)]) i).map (·.2) = if k' = k then some v else (findAt k' es i).map (·.2) := by
  induction es generalizing i with
  | nil =>
    unfold findAt
    by_cases h : k = k'
    · simp [h]
    · have h' : ¬ k' = k := fun x => h x.symm
      simp [h, h', findAt]
  | cons e es ih =>
    rw [List.cons_append]
    unfold findAt
    by_cases h : e.1 = k'
    · have : k' ≠ k := by rw [← h]; exact hno e List.mem_cons_self
      simp [h, this]
    · simp only [h, if_false]
      exact ih (fun e' he' => hno e' (List.mem_cons_of_mem _ he'))
theorem findAt_set {k k' : κ} {es : List (κ × Value × Nat)} {i n : Nat} {v : Value} {s : Nat} (v' : Value) (hnd : (es.map (·.1)).Nodup) (hn : es[n]? = some (k, v, s)) :
    (findAt k' (es.set n (k, v', s)) i).map (·.2) = if k' = k then some v' else (findAt k' es i).map (·.2) := by
  induction es generalizing i n with
  | nil => simp at hn
  | cons e es ih =>
    rw [List.map_cons, List.nodup_cons] at hnd
    cases n with
    | zero =>
      simp at hn
      subst hn
      rw [List.set_cons_zero]
      unfold findAt
      by_cases h : k = k'
      · simp [h]
      · have h' : ¬ k' = k := fun x => h x.symm
        simp [h, h']
    | succ n =>
      rw [List.set_cons_succ]
      unfold findAt
      simp at hn
      by_cases h : e.1 = k'
      · have : k' ≠ k := by
          intro h2
          apply hnd.1
          rw [List.mem_map]
          exact ⟨(k, v, s), List.mem_of_getElem? hn, by rw [h, h2]⟩
        simp [h, this]
      · simp only [h, if_false]
        exact ih hnd.2 hn

theorem run_getObj_map' {P : Program} {w : World} {r : Nat} {es : Array MapEntry} {clock : Nat} (hb : w.heap[r]? = some (.map es clock)) : (getObj r).run P w = .ok (.map es clock) w := by simp [getObj, Sem.run, hb]
theorem run_setObj_map' {P : Program} {w : World} {r : Nat} {es : Array MapEntry} {clock : Nat} (o : Obj) (hb : w.heap[r]? = some (.map es clock)) : (setObj r o).run P w = .ok () (w.putObj r o) := by simp [setObj, Sem.run, hb, World.putObj]

variable {P : Program} {t kt et : TypeId} {ke : κ → Value} {m : κ → Option Value} {w : World} {b : Nat}

theorem MapIs.made : MapIs (w.alloc (.map #[] 0)) w.heap.size ke (fun _ => none) :=
  ⟨[], 0, World.alloc_heap_new w _, by simp, by simp, by simp, fun _ => rfl⟩
theorem MapIs.of_heap {w' : World} (h : MapIs w b ke m) (hb : w'.heap[b]? = w.heap[b]?) : MapIs w' b ke m := by
  obtain ⟨es, clock, h1, h2⟩ := h
  exact ⟨es, clock, hb.trans h1, h2⟩
theorem MapIs.lt (h : MapIs w b ke m) : b < w.heap.size := by
  obtain ⟨es, clock, h1, _⟩ := h
  exact (Array.getElem?_eq_some_iff.1 h1).1

theorem MapIs.lookup (K : KeyLaw P kt ke) (ht : P.underlying t = some (.map kt et)) {z : Value} (hz : ∀ w, (zeroValue et).run P w = .ok z w) (h : MapIs w b ke m) (k : κ) :
    (Instr.lookup t (.map (some b)) (ke k) false).run P w = .ok ((m k).getD z) w := by
  obtain ⟨es, clock, h1, _, _, _, h2⟩ := h
  unfold Instr.lookup
  simp only [Sem.run_bind, run_underlying ht, Result.andThen_ok, run_getObj_map' h1, Sem.run_pure, K.check, K.find]
  rw [h2 k]
  cases hf : findAt k es 0 with
  | none => simp [Sem.run_bind, hz]
  | some x => simp
theorem MapIs.lookupOk (K : KeyLaw P kt ke) (ht : P.underlying t = some (.map kt et)) {z : Value} (hz : ∀ w, (zeroValue et).run P w = .ok z w) (h : MapIs w b ke m) (k : κ) :
    (Instr.lookup t (.map (some b)) (ke k) true).run P w = .ok (.tuple #[(m k).getD z, .bool (m k).isSome]) w := by
  obtain ⟨es, clock, h1, _, _, _, h2⟩ := h
  unfold Instr.lookup
  simp only [Sem.run_bind, run_underlying ht, Result.andThen_ok, run_getObj_map' h1, Sem.run_pure, K.check, K.find]
  rw [h2 k]
  cases hf : findAt k es 0 with
  | none => simp [Sem.run_bind, hz]
  | some x => simp

omit [DecidableEq κ] in
theorem map_set_entry (es : List (κ × Value × Nat)) (n : Nat) (k : κ) (v v' : Value) (s : Nat) (hn : es[n]? = some (k, v, s)) :
    ((es.map (entryOf ke)).toArray.modify n fun e => { e with key := ke k, val := v' }) = ((es.set n (k, v', s)).map (entryOf ke)).toArray := by
  apply Array.ext_getElem?
  intro i
  simp only [Array.getElem?_modify, List.getElem?_toArray, List.getElem?_map, List.getElem?_set]
  by_cases h : n = i
  · subst h
    obtain ⟨hl, he⟩ := List.getElem?_eq_some_iff.1 hn
    simp [hl, entryOf, he]
  · simp [h]

/-- A store: the map reads as before, but for its key; nothing else has turned. -/
theorem MapIs.update (K : KeyLaw P kt ke) (ht : P.underlying t = some (.map kt et)) (h : MapIs w b ke m) (k : κ) (v : Value) :
    ∃ o, (Instr.mapUpdate t (.map (some b)) (ke k) v).run P w = .ok () (w.putObj b o) ∧ o.isCells = false ∧ ∀ w', w'.heap[b]? = some o → MapIs w' b ke (upd m k v) := by
  obtain ⟨es, clock, h1, h3, h4, h5, h2⟩ := h
  unfold Instr.mapUpdate
  simp only [Sem.run_bind, run_underlying ht, Result.andThen_ok, run_getObj_map' h1, K.check, K.find]
  cases hf : findAt k es 0 with
  | none =>
    refine ⟨_, run_setObj_map' _ h1, rfl, fun w' hw' => ⟨es ++ [(k, v, clock)], clock + 1, ?_, ?_, ?_, ?_, ?_⟩⟩
    · rw [hw']; simp [entryOf]
    · intro e he
      rcases List.mem_append.1 he with he | he
      · exact Nat.lt_succ_of_lt (h3 e he)
      · simp at he; subst he; exact Nat.lt_succ_self _
    · rw [List.map_append, List.nodup_append]
      refine ⟨h4, by simp, ?_⟩
      intro x hx y hy
      simp at hy
      obtain ⟨e, he, rfl⟩ := List.mem_map.1 hx
      have := h3 e he
      omega
    · rw [List.map_append, List.nodup_append]
      refine ⟨h5, by simp, ?_⟩
      intro x hx y hy
      simp at hy
      subst hy
      obtain ⟨e, he, rfl⟩ := List.mem_map.1 hx
      exact findAt_none hf e he
    · intro k'
      rw [findAt_push (findAt_none hf)]
      unfold upd
      rw [h2 k']
  | some x =>
    obtain ⟨n, v0⟩ := x
    obtain ⟨_, s, hs⟩ := findAt_some hf
    simp only [Nat.sub_zero] at hs
    have hkey : ((((es.map (entryOf ke)).toArray)[n]?).map (·.key)).getD (ke k) = ke k := by simp [hs, entryOf]
    dsimp only
    rw [hkey]
    simp only [Instr.keyThatStays, K.same, if_true, Sem.run_bind, Sem.run_pure, Result.andThen_ok]
    rw [map_set_entry es n k v0 v s hs]
    refine ⟨_, run_setObj_map' _ h1, rfl, fun w' hw' => ⟨es.set n (k, v, s), clock, hw', ?_, ?_, ?_, ?_⟩⟩
    · intro e he
      rcases List.mem_or_eq_of_mem_set he with he | he
      · exact h3 e he
      · subst he; exact h3 (k, v0, s) (List.mem_of_getElem? hs)
    · rw [List.map_set]
      have : (es.map (·.2.2)).set n s = es.map (·.2.2) := by
        exact set_same (by simp [hs])
      simpa [this] using h4
    · rw [List.map_set]
      have : (es.map (·.1)).set n k = es.map (·.1) := by
        exact set_same (by simp [hs])
      simpa [this] using h5
    · intro k'
      rw [findAt_set v h5 hs]
      unfold upd
      rw [h2 k']

omit [DecidableEq κ] in
theorem map_set_val (es : List (κ × Value × Nat)) (n : Nat) (k : κ) (v v' : Value) (s : Nat) (hn : es[n]? = some (k, v, s)) :
    ((es.map (entryOf ke)).toArray.modify n fun e => { e with val := v' }) = ((es.set n (k, v', s)).map (entryOf ke)).toArray := by
  apply Array.ext_getElem?
  intro i
  simp only [Array.getElem?_modify, List.getElem?_toArray, List.getElem?_map, List.getElem?_set]
  by_cases h : n = i
  · subst h
    obtain ⟨hl, he⟩ := List.getElem?_eq_some_iff.1 hn
    simp [hl, entryOf, he]
  · simp [h]
omit [DecidableEq κ] in
theorem map_set_key (es : List (κ × Value × Nat)) (n : Nat) (k : κ) (v : Value) (s : Nat) (hn : es[n]? = some (k, v, s)) :
    ((es.map (entryOf ke)).toArray.modify n fun e => { e with key := ke k }) = (es.map (entryOf ke)).toArray := by
  apply Array.ext_getElem?
  intro i
  simp only [Array.getElem?_modify, List.getElem?_toArray, List.getElem?_map]
  by_cases h : n = i
  · subst h
    simp [hn, entryOf]
  · simp [h]

omit [DecidableEq κ] in
theorem findIdx_stamp (es : List (κ × Value × Nat)) (n : Nat) (k : κ) (v : Value) (s : Nat) (hn : es[n]? = some (k, v, s)) (hnd : (es.map (·.2.2)).Nodup) :
    ((es.map (entryOf ke)).toArray).findIdx? (fun e => (e.born : Int) == (s : Int)) = some n := by
  rw [List.findIdx?_toArray, List.findIdx?_eq_some_iff_getElem]
  obtain ⟨hl, he⟩ := List.getElem?_eq_some_iff.1 hn
  refine ⟨by simpa using hl, by simp [he, entryOf], ?_⟩
  intro j hj
  simp only [List.getElem_map, entryOf]
  intro h
  have h' : (es[j].2.2 : Int) = (s : Int) := by simpa using h
  have := List.pairwise_iff_getElem.1 hnd j n (by simp; omega) (by simpa using hl) hj
  simp [he] at this
  omega

/-- 'm[k] op= v', its first half: the entry is found or made; the second half stores behind the stamp. -/
theorem MapIs.entry (K : KeyLaw P kt ke) (ht : P.underlying t = some (.map kt et)) {z : Value} (hz : ∀ w, (zeroValue et).run P w = .ok z w) (h : MapIs w b ke m) (k : κ) :
    ∃ (o1 : Obj) (s : Nat), (Instr.mapEntry t (.map (some b)) (ke k)).run P w = .ok (.tuple #[(m k).getD z, .int .i64 s]) (w.putObj b o1) ∧ o1.isCells = false ∧
      (∀ w', w'.heap[b]? = some o1 → MapIs w' b ke (upd m k ((m k).getD z)) ∧
        ∀ v, ∃ o2, (Instr.entryStore t (.map (some b)) (.int .i64 s) v).run P w' = .ok () (w'.putObj b o2) ∧ o2.isCells = false ∧ ∀ w'', w''.heap[b]? = some o2 → MapIs w'' b ke (upd m k v)) := by
  have second : ∀ (es : List (κ × Value × Nat)) (clock n : Nat) (v0 : Value) (s : Nat), es[n]? = some (k, v0, s) → (∀ e ∈ es, e.2.2 < clock) → (es.map (·.2.2)).Nodup → (es.map (·.1)).Nodup →
      (∀ k', (if k' = k then some v0 else m k') = (findAt k' es 0).map (·.2)) → ∀ w' : World, w'.heap[b]? = some (.map (es.map (entryOf ke)).toArray clock) →
      ∀ v, ∃ o2, (Instr.entryStore t (.map (some b)) (.int .i64 s) v).run P w' = .ok () (w'.putObj b o2) ∧ o2.isCells = false ∧ ∀ w'', w''.heap[b]? = some o2 → MapIs w'' b ke (upd m k v) := by
    intro es clock n v0 s hs h3 h4 h5 h2 w' hw' v
    unfold Instr.entryStore
    simp only [Sem.run_bind, Sem.run_pure, Result.andThen_ok, run_getObj_map' hw', asInt, asIntOf]
    rw [findIdx_stamp es n k v0 s hs h4]
    dsimp only
    rw [map_set_val es n k v0 v s hs]
    refine ⟨_, run_setObj_map' _ hw', rfl, fun w'' hw'' => ⟨es.set n (k, v, s), clock, hw'', ?_, ?_, ?_, ?_⟩⟩
    · intro e he
      rcases List.mem_or_eq_of_mem_set he with he | he
      · exact h3 e he
      · subst he; exact h3 (k, v0, s) (List.mem_of_getElem? hs)
    · rw [List.map_set]
      have : (es.map (·.2.2)).set n s = es.map (·.2.2) := set_same (by simp [hs])
      simpa [this] using h4
    · rw [List.map_set]
      have : (es.map (·.1)).set n k = es.map (·.1) := set_same (by simp [hs])
      simpa [this] using h5
    · intro k'
      rw [findAt_set v h5 hs, ← h2 k']
      unfold upd
      split <;> rfl
  obtain ⟨es, clock, h1, h3, h4, h5, h2⟩ := h
  unfold Instr.mapEntry
  simp only [Sem.run_bind, run_underlying ht, Result.andThen_ok, run_getObj_map' h1, K.check, K.find]
  cases hf : findAt k es 0 with
  | none =>
    have hm : m k = none := by rw [h2 k, hf]; rfl
    have hes : ∀ e ∈ es ++ [(k, z, clock)], e.2.2 < clock + 1 := by
      intro e he
      rcases List.mem_append.1 he with he | he
      · exact Nat.lt_succ_of_lt (h3 e he)
      · simp at he; subst he; exact Nat.lt_succ_self _
    have hb1 : ((es ++ [(k, z, clock)]).map (·.2.2)).Nodup := by
      rw [List.map_append, List.nodup_append]
      refine ⟨h4, by simp, ?_⟩
      intro x hx y hy
      simp at hy
      obtain ⟨e, he, rfl⟩ := List.mem_map.1 hx
      have := h3 e he
      omega
    have hb2 : ((es ++ [(k, z, clock)]).map (·.1)).Nodup := by
      rw [List.map_append, List.nodup_append]
      refine ⟨h5, by simp, ?_⟩
      intro x hx y hy
      simp at hy
      subst hy
      obtain ⟨e, he, rfl⟩ := List.mem_map.1 hx
      exact findAt_none hf e he
    have hread : ∀ k', (if k' = k then some z else m k') = (findAt k' (es ++ [(k, z, clock)]) 0).map (·.2) := fun k' => by
      rw [findAt_push (findAt_none hf), h2 k']
    refine ⟨.map ((es ++ [(k, z, clock)]).map (entryOf ke)).toArray (clock + 1), clock, ?_, rfl, fun w' hw' => ⟨⟨es ++ [(k, z, clock)], clock + 1, hw', hes, hb1, hb2, ?_⟩, ?_⟩⟩
    · simp only [Sem.run_bind, hz, Result.andThen_ok, run_setObj_map' _ h1, Sem.run_pure, hm, Option.getD_none, goInt]
      simp [entryOf]
    · intro k'
      rw [← hread k', hm]
      rfl
    · exact second (es ++ [(k, z, clock)]) (clock + 1) es.length z clock (by simp) hes hb1 hb2 hread w' hw'
  | some x =>
    obtain ⟨n, v0⟩ := x
    obtain ⟨_, s, hs⟩ := findAt_some hf
    simp only [Nat.sub_zero] at hs
    have hm : m k = some v0 := by rw [h2 k, hf]; rfl
    have hkey : ((((es.map (entryOf ke)).toArray)[n]?).map (·.key)).getD (ke k) = ke k := by simp [hs, entryOf]
    have hborn : ((((es.map (entryOf ke)).toArray)[n]?).map (fun x => (x.born : Int))).getD 0 = (s : Int) := by simp [hs, entryOf]
    have hread : ∀ k', (if k' = k then some v0 else m k') = (findAt k' es 0).map (·.2) := fun k' => by
      rw [← h2 k']
      split
      · rename_i e; rw [e, hm]
      · rfl
    refine ⟨.map (es.map (entryOf ke)).toArray clock, s, ?_, rfl, fun w' hw' => ⟨⟨es, clock, hw', h3, h4, h5, ?_⟩, second es clock n v0 s hs h3 h4 h5 hread w' hw'⟩⟩
    · dsimp only
      rw [hkey, hborn]
      simp only [Instr.keyThatStays, K.same, if_true, Sem.run_bind, Sem.run_pure, Result.andThen_ok, run_setObj_map' _ h1, hm, Option.getD_some, goInt]
      rw [map_set_key es n k v0 s hs]
    · intro k'
      rw [← hread k', hm]
      rfl

end

/-- A block that is no cells may be laid anew: no cell turns. -/
theorem putObj_cell {w : World} {b : Nat} {ob o : Obj} (h : w.heap[b]? = some ob) (hb : ob.isCells = false) (ho : o.isCells = false) (a : Addr) : (w.putObj b o).cell? a = w.cell? a := by
  unfold World.cell?
  by_cases e : a.block = b
  · rw [e, World.putObj_heap_same (Array.getElem?_eq_some_iff.1 h).1, h]
    cases o <;> cases ob <;> simp_all [Obj.isCells]
  · rw [World.putObj_heap_other e]
theorem putObj_frozen {w : World} {b : Nat} {ob o : Obj} (h : w.heap[b]? = some ob) (hb : ob.isCells = false) (ho : o.isCells = false) (a : Addr) : (w.putObj b o).frozen? a = w.frozen? a := by
  unfold World.frozen?
  by_cases e : a.block = b
  · rw [e, World.putObj_heap_same (Array.getElem?_eq_some_iff.1 h).1, h]
    cases o <;> cases ob <;> simp_all [Obj.isCells]
  · rw [World.putObj_heap_other e]
theorem putObj_below {B : Nat} {w : World} {b : Nat} (o : Obj) (hB : B ≤ b) : Below B w (w.putObj b o) :=
  ⟨rfl, rfl, rfl, by simp, fun k hk => World.putObj_heap_other (by omega)⟩
theorem MapIs.isMap {κ : Type} [DecidableEq κ] {w : World} {b : Nat} {ke : κ → Value} {m : κ → Option Value} (h : MapIs w b ke m) : ∃ o, w.heap[b]? = some o ∧ o.isCells = false := by
  obtain ⟨es, clock, h1, _⟩ := h
  exact ⟨_, h1, rfl⟩

/-- Keys that are sets of plates. -/
theorem setKeys : KeyLaw Try.prog 61 (fun n : Nat => Value.int .u64 (n : Int)) where
  check := fun e k w => by
    unfold Instr.checkKey
    simp only [Sem.run_bind, run_underlying Try.underlying61, Result.andThen_ok]
    rfl
  find := fun k es w => by
    have key : ∀ (es : List (Nat × Value × Nat)) (i : Nat), Instr.findNow (.int .u64) (.int .u64 (k : Int)) (es.map (entryOf fun n : Nat => Value.int .u64 (n : Int))) i = some (findAt k es i) := by
      intro es
      induction es with
      | nil => intro i; rfl
      | cons e es ih =>
        intro i
        simp only [List.map_cons, Instr.findNow, entryOf, Instr.sameNow, if_true, findAt]
        by_cases h : e.1 = k
        · simp [h]
        · have : ¬ ((k : Int) = (e.1 : Int)) := by omega
          simp only [show ((k : Int) == (e.1 : Int)) = false from by simpa using this, h, if_false]
          exact ih (i + 1)
    unfold Instr.findKey
    simp only [Sem.run_bind, run_underlying Try.underlying61, Result.andThen_ok, key, Sem.run_pure]
  same := fun k => by simp [Instr.sameBits]

/-- A place as a key. -/
def placeV (p : Int × Int) : Value := .agg #[.int .i64 p.1, .int .i64 p.2]

theorem eqPlace (a b : Int × Int) (w : World) : (Op.equal 76 (placeV a) (placeV b)).run Try.prog w = .ok (decide (a = b)) w := by
  have u3 := Try.underlying3
  have a3 := Try.isAgg3
  have z3 := Try.sizeOf3
  have hS : Try.prog.underlying 76 = some (.struct (Try.prog.fieldsOf 76)) := by kernel_rfl
  have hp : Try.prog.stoodInHeld 76 = false := by kernel_rfl
  obtain ⟨a1, a2⟩ := a
  obtain ⟨b1, b2⟩ := b
  unfold Op.equal Op.maxDepth placeV
  rw [show (10000 : Nat) = 9999 + 1 from rfl, run_equalIn_agg w 9999 76 _ _ hS hp]
  simp only [Program.fieldsOf, Try.underlying76]
  go_simp
  by_cases h1 : a1 = b1 <;> by_cases h2 : a2 = b2 <;> simp [h1, h2]

theorem placeKeys : KeyLaw Try.prog 76 placeV where
  check := fun e k w => by
    have u3 := Try.underlying3
    have a3 := Try.isAgg3
    have z3 := Try.sizeOf3
    obtain ⟨a, b⟩ := k
    have hi : ∀ (n : Int) (w : World), (Instr.checkKey e 9999 3 (.int .i64 n)).run Try.prog w = .ok () w := fun n w => by
      unfold Instr.checkKey
      simp only [Sem.run_bind, run_underlying u3, Result.andThen_ok]
      rfl
    rw [show (10000 : Nat) = 9999 + 1 from rfl, Instr.checkKey]
    simp only [Sem.run_bind, run_underlying Try.underlying76, Result.andThen_ok, placeV]
    go_simp
  find := fun k es w => by
    have key : ∀ (es : List (_ × Value × Nat)) (i : Nat), (Instr.findAsking 76 (placeV k) (es.map (entryOf placeV)) i).run Try.prog w = .ok (findAt k es i) w := by
      intro es
      induction es with
      | nil => intro i; rfl
      | cons e es ih =>
        intro i
        simp only [List.map_cons, Instr.findAsking, entryOf, Sem.run_bind, eqPlace, Result.andThen_ok, findAt]
        by_cases h : e.1 = k
        · simp [h]
        · have h' : ¬ k = e.1 := fun x => h x.symm
          simp only [h, h', decide_false, Bool.false_eq_true, if_false]
          exact ih (i + 1)
    unfold Instr.findKey
    simp only [Sem.run_bind, run_underlying Try.underlying76, Result.andThen_ok]
    cases es with
    | nil => rfl
    | cons e es =>
      have : ∀ d, Instr.findNow (.struct d) (placeV k) ((e :: es).map (entryOf placeV)) 0 = none := fun d => by
        simp [Instr.findNow, Instr.sameNow, placeV, entryOf]
      rw [this]
      exact key _ _
  same := fun k => by simp [Instr.sameBits, placeV]
end Go.Proofs.Ytlfemkelnllmnaa
