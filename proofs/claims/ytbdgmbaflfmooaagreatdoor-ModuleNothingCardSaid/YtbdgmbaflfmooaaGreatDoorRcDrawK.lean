/- Regions whose order is left open: what does not change memory is found as soon as it can be, the rest one behind the other. Conditions: none. -/
import Derived.Test.YtbdgmbaflfmooaaGreatDoorRcDraw
set_option linter.unusedVariables false
set_option linter.unusedSimpArgs false
namespace Go.Rc

/-! ### tries: what is forgotten, what is put back -/
noncomputable def Tr.del {α : Type} (t : Tr α) : Nat → Tr α :=
  Tr.rec (motive := fun _ => Nat → Tr α) (fun _ => .nil)
    (fun l v r dl dr n => Nat.casesOn (motive := fun _ => Tr α) n (.node l none r) (fun m => Nat.casesOn (motive := fun _ => Tr α) (m % 2) (.node (dl (m / 2)) v r) (fun _ => .node l v (dr (m / 2))))) t

theorem Tr.del_succ {α : Type} (l r : Tr α) (v : Option α) (m : Nat) : (Tr.node l v r).del (m + 1) = if m % 2 = 0 then .node (l.del (m / 2)) v r else .node l v (r.del (m / 2)) := by
  show Nat.casesOn (motive := fun _ => Tr α) (m % 2) (.node (l.del (m / 2)) v r) (fun _ => .node l v (r.del (m / 2))) = _
  cases h : m % 2 with
  | zero => rfl
  | succ k => rw [if_neg (by omega)]

theorem Tr.get_del {α : Type} (t : Tr α) : ∀ (n m : Nat) (y : α), (t.del n).get m = some y → m ≠ n ∧ t.get m = some y := by
  induction t with
  | nil => intro n m y h; exact absurd (show (none : Option α) = some y from h) (by simp)
  | node l v r ihl ihr =>
    intro n m y h
    cases n with
    | zero =>
      cases m with
      | zero => exact absurd (show (none : Option α) = some y from h) (by simp)
      | succ m =>
        have h : ((Tr.node l none r).get (m + 1)) = some y := h
        rw [Tr.get_succ] at h ⊢
        exact ⟨by omega, h⟩
    | succ n =>
      rw [Tr.del_succ] at h
      cases m with
      | zero =>
        refine ⟨by omega, ?_⟩
        split at h <;> exact h
      | succ m =>
        rw [Tr.get_succ]
        split at h
        · rename_i hn
          rw [Tr.get_succ] at h
          split at h
          · rename_i hm
            rw [if_pos hm]
            obtain ⟨h1, h2⟩ := ihl _ _ _ h
            exact ⟨fun e => h1 (by have : m = n := by omega
                                   rw [this]), h2⟩
          · rename_i hm
            rw [if_neg hm]
            exact ⟨fun e => by have : m = n := by omega
                               rw [this] at hm; exact hm hn, h⟩
        · rename_i hn
          rw [Tr.get_succ] at h
          split at h
          · rename_i hm
            rw [if_pos hm]
            exact ⟨fun e => by have : m = n := by omega
                               rw [this] at hm; exact hn hm, h⟩
          · rename_i hm
            rw [if_neg hm]
            obtain ⟨h1, h2⟩ := ihr _ _ _ h
            exact ⟨fun e => h1 (by have : m = n := by omega
                                   rw [this]), h2⟩

noncomputable def delL (t : Tr AObj) (l : List Nat) : Tr AObj := List.rec (motive := fun _ => Tr AObj) t (fun i _ ih => ih.del i) l

theorem get_delL {t : Tr AObj} (l : List Nat) {m : Nat} {y : AObj} (h : (delL t l).get m = some y) : m ∉ l ∧ t.get m = some y := by
  induction l with
  | nil => exact ⟨by simp, h⟩
  | cons i r ih =>
    obtain ⟨h1, h2⟩ := Tr.get_del _ _ _ _ h
    obtain ⟨h3, h4⟩ := ih h2
    exact ⟨by simp [h1, h3], h4⟩

/-- What s knows of the objects of l is put into t. -/
noncomputable def restL (s t : Tr AObj) (l : List Nat) : Tr AObj := List.rec (motive := fun _ => Tr AObj) t (fun i _ ih => match s.get i with
  | some o => ih.set 64 i o
  | none => ih) l

theorem get_restL {s t : Tr AObj} (l : List Nat) {m : Nat} {y : AObj} (h : (restL s t l).get m = some y) : (m ∈ l ∧ s.get m = some y) ∨ t.get m = some y := by
  induction l with
  | nil => exact .inr h
  | cons i r ih =>
    have h : (match s.get i with
      | some o => (restL s t r).set 64 i o
      | none => restL s t r).get m = some y := h
    have tail : (restL s t r).get m = some y → (m ∈ i :: r ∧ s.get m = some y) ∨ t.get m = some y := fun h => (ih h).imp (fun h => ⟨by simp [h.1], h.2⟩) id
    split at h
    · rename_i o ho
      rcases Tr.get_set 64 _ _ _ _ _ h with ⟨rfl, rfl⟩ | ⟨_, h2⟩
      · exact .inl ⟨by simp, ho⟩
      · exact tail h2
    · exact tail h

/-! ### a zero value in a place that was kept for it -/
theorem ok_alloc_fill {P : Program} {T : Tb} {o : Oper} {ev : Ev} {H : Heap} {t : TypeId} {i : TI} {s : Nat} (hT : TbOk P T) (ho : o.op = .alloc t) (hi : T t = some i) (hs : H[s]? = some .slot) : OpOk P o ev H (.ptr s 0) (H.set s (.var t i.agg i.sz (zv i))) := by
  obtain ⟨info, d, hok⟩ := hT t i hi
  refine .of_run fun G ρ w a _ hst he => ?_
  have hz := zvalue_cells hok
  obtain ⟨zc, za⟩ := zv_cells hok
  have hlt := (List.getElem?_eq_some_iff.1 hs).1
  have hltρ : s < ρ.length := by rw [hst.len]; exact hlt
  have hρ : ρ[s]? = some ρ[s] := by simp [hltρ]
  have hslot : ρ[s] = .tuple #[] := hst.obj s _ _ hs hρ
  obtain ⟨s1, s2⟩ := hst.change (w' := w.alloc (.cells i.z.toArray t)) hs hρ (.var t i.agg i.sz (zv i)) (.pointer (some ⟨w.heap.size, 0, none⟩)) rfl rfl rfl (by simp)
    (fun b hb _ => heap_alloc_at hb) (fun b _ hb => .inr (by cases hb; exact Nat.le_refl _)) (.inr (.inr hslot)) (fun hk hr => by
      refine ⟨by rw [zc]; simp [hok.zl], za, w.heap.size, i.z.toArray, rfl, heap_alloc_new w _, by rw [zc]; simp, fun j c y h1 h2 => ?_⟩
      rw [zc] at h1
      simp only [List.getElem?_map, Option.map_eq_some_iff] at h1
      obtain ⟨x, hx, rfl⟩ := h1
      have : x = y := by simpa [hx] using h2
      subst this
      exact .d _ _ (.v _ (isAgg_of_one (hok.z1 x (List.mem_of_getElem? hx)))))
  refine ⟨_, _, .pointer (some ⟨w.heap.size, 0, none⟩), ?_, s1, s2, .ptr _ 0 w.heap.size (by simp [hltρ])⟩
  simp only [execOp, ho, Instr.alloc, Sem.run_bind, run_zeroValue hok, Result.andThen_ok, newVar, newRow, hz, run_newObj, Sem.run_pure]
  rfl

/-- A place is kept. -/
theorem Sat.slot {G : Ctx} {ρ : List Value} {H : Heap} {w : World} (h : Sat G ρ H w) : Sat G (ρ ++ [.tuple #[]]) (H ++ [.slot]) w ∧ Step ρ (ρ ++ [.tuple #[]]) H (H ++ [.slot]) w w :=
  h.new .slot (.tuple #[]) rfl rfl rfl (Nat.le_refl _) (fun _ _ => rfl) (fun b hb => by cases hb) (fun _ => rfl)

theorem Sat.slots {G : Ctx} {w : World} (n : Nat) : ∀ {ρ : List Value} {H : Heap}, Sat G ρ H w → ∃ ρ', Sat G ρ' (H ++ List.replicate n .slot) w ∧ Step ρ ρ' H (H ++ List.replicate n .slot) w w := by
  induction n with
  | zero => intro ρ H h; exact ⟨ρ, by simpa using h, by simpa using Step.refl ρ H w⟩
  | succ n ih =>
    intro ρ H h
    obtain ⟨h1, h2⟩ := h.slot
    obtain ⟨ρ', h3, h4⟩ := ih h1
    have e : H ++ [AObj.slot] ++ List.replicate n AObj.slot = H ++ List.replicate (n + 1) AObj.slot := by simp [List.replicate_succ]
    rw [e] at h3 h4
    exact ⟨ρ', h3, h2.trans h4⟩

/-! ### quiet operations ask nothing of the number of objects -/
def R.atN (n : Nat) : R → R
  | .ok v hs => .ok v ⟨hs.t, n⟩
  | .pan v hs => .pan v ⟨hs.t, n⟩
  | r => r

theorem stepB_n {T : Tb} {c : Call} {ev : Ev} {t : Tr AObj} {n n' : Nat} (hc : c.callee = .builtin .len) : stepB T c ev ⟨t, n'⟩ = (stepB T c ev ⟨t, n⟩).atN n' := by
  obtain ⟨callee, args, argTypes⟩ := c
  simp only at hc
  subst hc
  rw [stepB_eq, stepB_eq]
  simp only [stepB0]
  repeat' split
  all_goals rfl

theorem quiet_n {T : Tb} {op : Op} {ev : Ev} {t : Tr AObj} {n n' : Nat} (hq : isAct op = false) : stepO T op ev ⟨t, n'⟩ = (stepO T op ev ⟨t, n⟩).atN n' := by
  rw [stepO_eq, stepO_eq]
  cases op with
  | call c =>
    unfold stepO0
    refine stepB_n (c := c) ?_
    simp only [isAct] at hq
    split at hq
    · assumption
    · cases hq
  | alloc => cases hq
  | box => cases hq
  | buildSlice => cases hq
  | store => cases hq
  | makeMap => cases hq
  | mapUpdate => cases hq
  | defer => cases hq
  | panic => cases hq
  | range => cases hq
  | next => cases hq
  | _ =>
    have hsrc : ∀ (ie : TI) (v : AV), srcA ⟨t, n'⟩ ie v = srcA ⟨t, n⟩ ie v := fun _ _ => rfl
    unfold stepO0
    simp only [hsrc]
    repeat' split
    all_goals first | contradiction | rfl | simp_all

end Go.Rc
