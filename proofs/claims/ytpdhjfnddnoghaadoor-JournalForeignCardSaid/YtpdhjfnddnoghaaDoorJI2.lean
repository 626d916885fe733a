/- More words for the laws' walks.
   Conditions: none. -/
import Derived.Test.YtpdhjfnddnoghaaDoorJH2
namespace Go.Proofs.YtpdhjfnddnoghaaDoor
open Go.RowKit Go.Lib
set_option linter.unusedVariables false
set_option linter.unusedSimpArgs false

theorem rot_queue (st : DS) (x a m : Int) : (st.rot x a m).queue = st.queue := by unfold DS.rot; split <;> rfl
theorem Kept.union {F F' G : Nat → Prop} {w w' : World} (h : Kept F w w' F') : Kept (fun k => F k ∨ G k) w w' (fun k => F' k ∨ G k) :=
  ⟨h.up.mono fun i hi => .inl hi, fun i hi => hi.elim (fun h1 => (h.old i h1).imp .inl id) fun h1 => .inl (.inr h1)⟩
theorem Own.app2 {B : Nat} {w0 w w' : World} {F G : Nat → Prop} {d j : Nat} {st : DS} {js : JSt} {r : DS × JSt × Int} {e : Ending} (h : Own B w0 w F d st) (hj : JAt w G j d js) (hGB : ∀ k, G k → B ≤ k) (ho : AppendOut w F G d j r e w') :
    e = .returned (.int .i64 r.2.2) ∧ ∃ F' G', Own B w0 w' F' d r.1 ∧ JAt w' G' j d r.2.1 ∧ (∀ k, G' k → ¬ F' k) ∧ (∀ k, G' k → B ≤ k) ∧ Kept (fun k => F k ∨ G k) w w' (fun k => F' k ∨ G' k) := by
  obtain ⟨he, F', G', h1, h2, h3, h4, h5, h6, h7⟩ := h.app hj hGB ho
  refine ⟨he, F', G', h1, h2, h3, h4, h7, fun i hi => ?_⟩
  rcases hi with hi | hi
  · exact (h5 i hi).imp .inl id
  · exact (h6 i hi).imp .inr id
theorem small_a : Small [bA] := ⟨by simp, fun x hx => by rw [List.mem_singleton.1 hx]; show (1 : Nat) ≤ 1000000; omega⟩
theorem len_a : (textL [bA]).length ≤ 1000000 := by
  rw [textL_one bA (by decide), show bA.size = 1 from rfl, decDigits_one (by omega)]
  simp
theorem open_off {n c : Nat} {recs : List ByteArray} {st : DS} (h : Calm n c recs st) (w b : Int) : (st.fail w b).openM = (st.fail w b, none, 26) := off_open (h.fail w b).1
theorem fail_q {n c : Nat} {recs : List ByteArray} {st : DS} (h : Calm n c recs st) (w b : Int) : (st.fail w b).queue = [] := by rw [fail_calm h.rd.on h.q]
theorem repairM_q (st : DS) (all : List ByteArray) (c p : Nat) : (st.repairM all c p).1.queue.length ≤ st.queue.length + 2 := by
  unfold DS.repairM
  split
  · show st.queue.length ≤ _; omega
  · have h1 := DS.writeM_q st p [zeroB]
    simp only [List.length_cons, List.length_nil] at h1
    split
    · have h2 := DS.writeM_q (st.writeM p [zeroB]).1 p [headB p c]
      simp only [List.length_cons, List.length_nil] at h2
      omega
    · omega
theorem repairs_q (st : DS) (all : List ByteArray) (c : Nat) : (st.repairs all c).1.queue.length ≤ st.queue.length + 4 := by
  have h0 := repairM_q st all c 0
  unfold DS.repairs
  split
  · have h1 := repairM_q (st.repairM all c 0).1 all c 1
    omega
  · omega
theorem openM_q (st : DS) : st.openM.1.queue.length ≤ st.queue.length + 4 := by
  have hr := repairs_q st st.all (countM st.all).toNat
  unfold DS.openM
  split
  · show st.queue.length ≤ _; omega
  · split
    · show st.queue.length ≤ _; omega
    · split
      · show st.queue.length ≤ _; omega
      · unfold DS.openRest
        split
        · show st.queue.length ≤ _; omega
        · split
          · show st.queue.length ≤ _; omega
          · split
            · exact hr
            · exact hr
theorem hq_open {st st' : DS} {o : Option JSt} {c : Int} (h : st.openM = (st', o, c)) : st'.queue.length ≤ st.queue.length + 4 := by
  have := openM_q st
  rw [h] at this
  exact this
set_option maxRecDepth 100000 in
theorem steps_q (st : DS) (c : Nat) (ps : List ByteArray) : (st.steps c ps).1.queue.length ≤ st.queue.length + 2 * ps.length + 2 := by
  have h1 := DS.writeM_q st ((2 + c : Nat) : Int) (List.replicate ps.length zeroB)
  rw [List.length_replicate] at h1
  unfold DS.steps
  generalize st.writeM ((2 + c : Nat) : Int) (List.replicate ps.length zeroB) = A at h1 ⊢
  have h2 := DS.writeM_q A.1 ((2 + c : Nat) : Int) (fulls (2 + c) ps)
  rw [fulls_len] at h2
  generalize A.1.writeM ((2 + c : Nat) : Int) (fulls (2 + c) ps) = B at h2 ⊢
  have h3 := DS.writeM_q B.1 ((1 : Nat) : Int) [headB 1 (c + ps.length)]
  rw [List.length_singleton] at h3
  generalize B.1.writeM ((1 : Nat) : Int) [headB 1 (c + ps.length)] = C at h3 ⊢
  have h4 := DS.writeM_q C.1 ((0 : Nat) : Int) [headB 0 (c + ps.length)]
  rw [List.length_singleton] at h4
  generalize C.1.writeM ((0 : Nat) : Int) [headB 0 (c + ps.length)] = D at h4 ⊢
  split
  · split
    · split
      · omega
      · omega
    · omega
  · omega
theorem appendM_q (st : DS) (js : JSt) (xs : List ByteArray) : (appendM st js xs).1.queue.length ≤ st.queue.length + 2 * (piecesL (textL xs)).length + 2 := by
  have h := steps_q st js.count (piecesL (textL xs))
  unfold appendM
  split
  · show st.queue.length ≤ _; omega
  · split
    · show st.queue.length ≤ _; omega
    · split
      · show st.queue.length ≤ _; omega
      · split
        · show st.queue.length ≤ _; omega
        · split
          · exact h
          · exact h
theorem arm_queue (st : DS) (a w b : Int) : (st.arm a w b).queue = st.queue := by unfold DS.arm; split <;> rfl
theorem fail_queue0 (st : DS) (w b : Int) : (st.fail w b).queue.length ≤ st.queue.length := by unfold DS.fail; split <;> simp
set_option maxRecDepth 100000 in
theorem step_append_texts {ops : Array Oper} {o : Oper} {a : Act} {w : World} {K : Act → World → Prop} {Q : Exit → Act → World → Prop} {E : Prop} (hgd : o.guard = none) (s x : Operand)
    (ho : o.op = .call { callee := .builtin .append, args := #[s, x], argTypes := #[27, 27] }) (base : Nat) (v : Value) (n : Nat) (ys : List Value) (hs : a.eval s = v) (hown : w.ownsRow base 9 1 v n ys)
    (A : Option Addr) (c : Nat) (xs : List ByteArray) (hx : a.eval x = .slice A xs.length c) (hv : TextsAt w (.slice A xs.length c) xs) (h63 : n + xs.length ≤ maxLen) (hbytes : (n + xs.length) * 16 ≤ 140737488355328) (hbase : base ≤ w.heap.size)
    (h : ∀ v' w', w'.ownsRow base 9 1 v' (n + xs.length) (ys ++ strs xs) → w.grownBy w' v.ownBlock → (v'.ownBlock = v.ownBlock ∨ v'.ownBlock = some w.heap.size) → K (a.put o.dst v') w') :
    if Region.wanted o (yielded ops a.tmps) = true then Oper.wp Tryd.prog o a w K Q else E := by
  obtain ⟨i0, hi, hz0, hz1, hz2⟩ := info_parts Tryd.infoStr
  have hw : Region.wanted o (yielded ops a.tmps) = true := by simp [Region.wanted, hgd]
  rw [if_pos hw]
  obtain ⟨v', w', hr, h2, h3, h4⟩ := run_append_texts w base o.type i0 hi hz0 hz1 hz2 v n ys hown A c xs hv h63 hbytes hbase
  unfold Oper.wp execOp
  simp only [ho, resolve, invoke, builtin, Sem.run_bind, Sem.run_pure, Result.andThen_ok, List.map_toArray, List.map_cons, List.map_nil, hs, hx, hr]
  exact h v' w' h2 h3 h4
/-- behind an Open that the power may have cut -/
theorem Own.early {B : Nat} {w0 w w' : World} {F : Nat → Prop} {d : Nat} {st st5 : DS} {jo : Option JSt} {g : Int} {n c : Nat} {recs : List ByteArray} {e : Ending} (h : Own B w0 w F d st) (ho : OpenOut w F d st e w') (he : st.openM = (st5, jo, g)) (hg : (g = 0 ∧ jo = some ⟨n, c, recs, false⟩) ∨ (g = 26 ∧ jo = none)) :
    ∃ F' jv ev er, Kept F w w' F' ∧ Own B w0 w' F' d st5 ∧ e = .returned (.tuple #[jv, ev, .int .i64 g]) ∧ TextsOut w' F' ev er ∧ (g = 0 → er = recs) ∧ er.length ≤ recs.length := by
  obtain ⟨F', hk, hO, hc⟩ := h.open ho
  rw [he] at hO hc
  rcases hc with ⟨h1, h2⟩ | ⟨js, j, G, lv, h1, h2, _, _, _, h3, _⟩
  · refine ⟨F', _, _, [], hk, hO, h2, ⟨none, 0, rfl, fun hp => by simp at hp⟩, fun h0 => ?_, by simp⟩
    rcases hg with ⟨_, hg2⟩ | ⟨hg1, _⟩
    · simp only at h1
      rw [hg2] at h1
      cases h1
    · omega
  · rcases hg with ⟨hg1, hg2⟩ | ⟨_, hg2⟩
    · simp only at h1
      rw [hg2] at h1
      injection h1 with h1
      subst h1
      exact ⟨F', _, lv, recs, hk, hO, h2, h3, fun _ => rfl, Nat.le_refl _⟩
    · simp only at h1
      rw [hg2] at h1
      cases h1
end Go.Proofs.YtpdhjfnddnoghaaDoor
