/- slices.Sorted(maps.Keys(m)) and slices.Collect(maps.Keys(m)) of int keys, in the seen heap. -/
import Derived.Test.YtdolepapmpcpiaaVMap
import Derived.Test.YtdolepapmpcpiaaFC
import Derived.Test.YtdolepapmpcpiaaShelf
namespace Go.Proofs.Ytdolepapmpcpiaa
open Go Go.RowKit Go.Maps Go.Shelf
set_option linter.unusedSectionVars false
variable [Base]
open Go.WideElems (Fit rd rg)

/-- A slice of n items, at its own row from its start. -/
def Row (h : Hp) (base sz : Nat) (v : Value) (n : Nat) (xs : List Value) : Prop :=
  xs.length = n * sz ∧ ((v = .slice none 0 0 ∧ n = 0) ∨ ∃ g cap c, v = .slice (some ⟨g, 0, none⟩) n cap ∧ base ≤ g ∧ h[g]? = some (.cells c) ∧ n ≤ cap ∧ cap ≤ maxLen ∧ c.size = cap * sz ∧ c.toList.take (n * sz) = xs)

theorem Row.of_own {w : World} {base e sz n : Nat} {v : Value} {xs : List Value} (hB : Base.b ≤ base) (h : w.ownsRow base e sz v n xs) : Row (hv w) base sz v n xs := by
  refine ⟨h.1, h.2.imp id ?_⟩
  rintro ⟨g, cap, cur, h1, h2, h3, h4⟩
  exact ⟨g, cap, cur, h1, h2, by rw [hv_get, h3, Option.map_some, see_new (Nat.le_trans hB h2)]; simp [absObj], h4⟩

theorem Ext.of_below {w w' : World} (h : Below w.heap.size w w') : Ext (hv w) (hv w') := by
  refine ⟨by rw [hv_size, hv_size]; exact h.size, fun r hr _ => ?_⟩
  rw [hv_size] at hr
  rw [hv_get, hv_get, h.block r hr, see_eq h.os h.output]

theorem kvOf_keys (es : Array MapEntry) : (kvOf es).map (·.1) = es.toList.map (·.key) := by simp [kvOf]

abbrev Rany : Value → Option (DataW Unit × List MemPlace) := fun _ => some (.lit (.bool true), [])
abbrev i64ok (x : Int) : Prop := -9223372036854775808 ≤ x ∧ x ≤ 9223372036854775807
theorem i64wf {x : Int} (h : i64ok x) : (Lit.int .i64 x).wf = true := by
  simp only [Lit.wf, i64ok] at *
  have h1 : IntKind.i64.min = -9223372036854775808 := by decide
  have h2 : IntKind.i64.max = 9223372036854775807 := by decide
  rw [h1, h2]
  simpa using h

/-- A seen map of int keys is one that the kit's readers own. -/
theorem owns_of {P : Program} {k : TypeId} (hk : P.underlying k = some (.int .i64)) {w : World} {r : Nat} {kv : List (Value × Value)} (h : (hv w)[r]? = some (.map kv)) {ks : List Int} (hks : kv.map (·.1) = ks.map encZ)
    (hwf : ∀ x ∈ ks, i64ok x) (hlen : ks.length ≤ maxLen) :
    ∃ D : DataW Unit, w.ownsMap P k Rany r ks.length D ∧ (intKeys D).Perm ks ∧ Maps.size D = ks.length := by
  obtain ⟨es, ck, hb, hs, rfl⟩ := of_map h
  rw [kvOf_keys] at hks
  have hl : es.size = ks.length := by have := congrArg List.length hks; simpa using this
  have hrd : ∀ x ∈ es.toList, ∃ a, a ∈ ks ∧ x.key = encZ a := by
    intro x hx
    have : x.key ∈ ks.map encZ := hks ▸ List.mem_map_of_mem hx
    obtain ⟨a, ha, e⟩ := List.mem_map.1 this
    exact ⟨a, ha, e.symm⟩
  have hr : ∀ x ∈ es.toList, ∃ a, x.key = encZ a ∧ rd P k Rany x = some (.int .i64 a, .lit (.bool true)) := by
    intro x hx
    obtain ⟨a, ha, e⟩ := hrd x hx
    refine ⟨a, e, ?_⟩
    unfold rd
    rw [e, show keyOf P k (encZ a) = some (.int .i64 a) from keyOf_int_mk hk (i64wf (hwf a ha))]
    rfl
  have hF : Fit P k Rany es ck := ⟨by omega, hs, fun x hx => by obtain ⟨a, _, e⟩ := hr x hx; exact ⟨_, e⟩⟩
  refine ⟨_, ⟨es, ck, hb, hF, by omega, rfl⟩, ?_, ?_⟩
  · have h1 : ((es.toList.map (rg P k Rany)).foldr DataW.insert []).Perm (es.toList.map (rg P k Rany)) := WideShapes.sorted_perm _
    have h2 : (es.toList.map (rg P k Rany)).map (fun p => Go.intOf p.1) = ks := by
      have : ∀ (l : List MapEntry) (q : List Int), (∀ x ∈ l, ∃ a, x.key = encZ a ∧ rd P k Rany x = some (.int .i64 a, .lit (.bool true))) → l.map (·.key) = q.map encZ → (l.map (rg P k Rany)).map (fun p => Go.intOf p.1) = q := by
        intro l
        induction l with
        | nil => intro q _ hq; cases q with
          | nil => rfl
          | cons a b => simp at hq
        | cons x l ih =>
          intro q hx hq
          cases q with
          | nil => simp at hq
          | cons a q =>
            simp only [List.map_cons, List.cons.injEq] at hq
            obtain ⟨b, e, e'⟩ := hx x (List.mem_cons_self ..)
            rw [e] at hq
            have : b = a := encZ_inj hq.1
            subst this
            simp only [List.map_cons]
            rw [ih q (fun y hy => hx y (List.mem_cons_of_mem _ hy)) hq.2]
            congr 1
            unfold rg
            rw [e']
            rfl
      exact this _ _ hr hks
    exact (h1.map _).trans (h2 ▸ List.Perm.refl _)
  · show ((es.toList.map (rg P k Rany)).foldr DataW.insert []).length = _
    rw [length_sorted]; simp [hl]

abbrev sortI (l : List Int) : List Int := l.mergeSort fun x y => decide (x ≤ y)

theorem sorts_at (m : Nat) : AnyZI.SortsIn Try.prog Try.sortedA_ren Fence.wide m :=
  ⟨fun blk off cap ss W hH hblk hsz => callsIn_wide.2 (AnyM.slices_Sort_int Try.sortA blk off cap ss W hH hblk hsz),
   fun p cap W => callsIn_wide.2 (AnyM.slices_Sort_int_none Try.sortA p cap W)⟩

/-- What comes back of Sorted(Keys) at a map of the keys ks. -/
def SortsTo (h : Hp) (ks : List Int) (K : Kont) : Prop :=
  ∀ v h', Ext h h' → Row h' h.size 1 v ks.length ((sortI ks).map encZ) → (v = .slice none 0 0 ↔ ks = []) → K v h'
def CollectsTo (h : Hp) (ks : List Int) (K : Kont) : Prop :=
  ∀ (v : Value) (h' : Hp) (ss : List Int), ss.Perm ks → Ext h h' → Row h' h.size 1 v ks.length (ss.map encZ) → (v = .slice none 0 0 ↔ ks = []) → K v h'

theorem sorted_of {g : Nat} {la : Array Value} {h : Hp} {ks : List Int} {K : Kont} (hB : Base.b ≤ h.size) (eg : ∀ args w, (callFunc g args).run Try.prog w = .ok (.enter g args) w) (hlen : ks.length ≤ 1048576)
    (hseq : ∀ w, hv w = h → SeqGives Fence.wide 2 Try.prog g la encZ (fun ss => ss.Perm ks) ks.length w) (hK : SortsTo h ks K) : C_slices_Sorted_int [.func (.func g) #[] la] h K := by
  intro w hw
  refine (callsIn_wide (n := 5)).1 ?_
  have hl : ks.length ≤ maxLen := by unfold maxLen; omega
  have cS := AnyZI.sorted_in Try.sortedA Fence.wide 5 trivial trivial trivial trivial rfl (by omega) (sorts_at _) (enters_of Try.func86 (by kernel_rfl) rfl) g la trivial eg _ _ hl (by omega) _ (hseq w hw)
  refine CallsIn.mono (P := Try.prog) cS ?_
  rintro e w' ⟨v, ss, rfl, hp, hrow, hnil, hb⟩
  refine ⟨v, rfl, hK v _ (hw ▸ Ext.of_below hb) ?_ ?_⟩
  · have := Row.of_own (by rw [← hv_size, hw]; exact hB) hrow
    rw [hp.length_eq, mergeSort_of_perm_i hp, ← hv_size, hw] at this
    exact this
  · rw [hnil]
    exact ⟨fun e => by subst e; exact List.nil_perm.1 hp, fun e => by subst e; exact List.perm_nil.1 hp⟩

theorem collect_of {g : Nat} {la : Array Value} {h : Hp} {ks : List Int} {K : Kont} (hB : Base.b ≤ h.size) (eg : ∀ args w, (callFunc g args).run Try.prog w = .ok (.enter g args) w) (hlen : ks.length ≤ 1048576)
    (hseq : ∀ w, hv w = h → SeqGives Fence.wide 2 Try.prog g la encZ (fun ss => ss.Perm ks) ks.length w) (hK : CollectsTo h ks K) : C_slices_Collect_int [.func (.func g) #[] la] h K := by
  intro w hw
  refine (callsIn_wide (n := 4)).1 ?_
  have hl : ks.length ≤ maxLen := by unfold maxLen; omega
  have cS := AnyZI.collect_in { Try.sortedA with } Fence.wide 4 trivial trivial rfl (by omega) g la trivial eg _ _ hl (by omega) _ (hseq w hw)
  refine CallsIn.mono (P := Try.prog) cS ?_
  rintro e w' ⟨v, ss, rfl, hp, hrow, hnil, hb⟩
  refine ⟨v, rfl, hK v _ ss hp (hw ▸ Ext.of_below hb) ?_ ?_⟩
  · have := Row.of_own (by rw [← hv_size, hw]; exact hB) hrow
    rw [hp.length_eq, ← hv_size, hw] at this
    exact this
  · rw [hnil]
    exact ⟨fun e => by subst e; exact List.nil_perm.1 hp, fun e => by subst e; exact List.perm_nil.1 hp⟩

theorem cell_of {w : World} {b : Nat} {v : Value} (h : (hv w)[b]? = some (.cells #[v])) : w.cell? ⟨b, 0, none⟩ = some v := by
  obtain ⟨t, ht⟩ := of_cells h
  simp [World.cell?, ht]

theorem seqA {h : Hp} {b r : Nat} {kv : List (Value × Value)} {ks : List Int} (hb : h[b]? = some (.cells #[.map (some r)])) (hm : h[r]? = some (.map kv)) (hks : kv.map (·.1) = ks.map encZ) (hwf : ∀ x ∈ ks, i64ok x) (hlen : ks.length ≤ 1048576) (w : World) (hw : hv w = h) :
    SeqGives Fence.wide 2 Try.prog 76 #[pt b 0] encZ (fun ss => ss.Perm ks) ks.length w := by
  subst hw
  obtain ⟨D, hD, hp, hsz⟩ := owns_of (P := Try.prog) (k := 3) (by kernel_rfl) hm hks hwf (by unfold maxLen; omega)
  have := AnyZI.keys_gives (ρ := Try.keysA_ren) { Try.keysA with } Fence.wide 2 trivial rfl (by omega) b r _ D w (by rw [← hv_size]; exact lt_of_get hb) (cell_of hb) hD
  rw [hsz] at this
  intro l J W hW hJ hY h0
  refine CallsIn.mono (this l J W hW hJ hY h0) ?_
  rintro e W' ⟨hv, xs, hx, hj⟩
  exact ⟨hv, xs, hx.trans hp, hj⟩
theorem seqB {h : Hp} {b r : Nat} {kv : List (Value × Value)} {ks : List Int} (hb : h[b]? = some (.cells #[.map (some r)])) (hm : h[r]? = some (.map kv)) (hks : kv.map (·.1) = ks.map encZ) (hwf : ∀ x ∈ ks, i64ok x) (hlen : ks.length ≤ 1048576) (w : World) (hw : hv w = h) :
    SeqGives Fence.wide 2 Try.prog 80 #[pt b 0] encZ (fun ss => ss.Perm ks) ks.length w := by
  subst hw
  obtain ⟨D, hD, hp, hsz⟩ := owns_of (P := Try.prog) (k := 3) (by kernel_rfl) hm hks hwf (by unfold maxLen; omega)
  have := AnyZI.keys_gives (ρ := Try.keysB_ren) { Try.keysB with } Fence.wide 2 trivial rfl (by omega) b r _ D w (by rw [← hv_size]; exact lt_of_get hb) (cell_of hb) hD
  rw [hsz] at this
  intro l J W hW hJ hY h0
  refine CallsIn.mono (this l J W hW hJ hY h0) ?_
  rintro e W' ⟨hv, xs, hx, hj⟩
  exact ⟨hv, xs, hx.trans hp, hj⟩
theorem seqC {h : Hp} {b r : Nat} {kv : List (Value × Value)} {ks : List Int} (hb : h[b]? = some (.cells #[.map (some r)])) (hm : h[r]? = some (.map kv)) (hks : kv.map (·.1) = ks.map encZ) (hwf : ∀ x ∈ ks, i64ok x) (hlen : ks.length ≤ 1048576) (w : World) (hw : hv w = h) :
    SeqGives Fence.wide 2 Try.prog 87 #[pt b 0] encZ (fun ss => ss.Perm ks) ks.length w := by
  subst hw
  obtain ⟨D, hD, hp, hsz⟩ := owns_of (P := Try.prog) (k := 3) (by kernel_rfl) hm hks hwf (by unfold maxLen; omega)
  have := AnyZI.keys_gives (ρ := Try.keysC_ren) { Try.keysC with } Fence.wide 2 trivial rfl (by omega) b r _ D w (by rw [← hv_size]; exact lt_of_get hb) (cell_of hb) hD
  rw [hsz] at this
  intro l J W hW hJ hY h0
  refine CallsIn.mono (this l J W hW hJ hY h0) ?_
  rintro e W' ⟨hv, xs, hx, hj⟩
  exact ⟨hv, xs, hx.trans hp, hj⟩
theorem en76 : ∀ args w, (callFunc 76 args).run Try.prog w = .ok (.enter 76 args) w := enters_of Try.func76 (by kernel_rfl) rfl
theorem en80 : ∀ args w, (callFunc 80 args).run Try.prog w = .ok (.enter 80 args) w := enters_of Try.func80 (by kernel_rfl) rfl
theorem en87 : ∀ args w, (callFunc 87 args).run Try.prog w = .ok (.enter 87 args) w := enters_of Try.func87 (by kernel_rfl) rfl

end Go.Proofs.Ytdolepapmpcpiaa
