/- The types of the translation as a table, the functions that are called, and what is known of them. -/
import Derived.Test.YtkiioneimheciaaGreatProg
import Derived.Test.YtkiioneimheciaaGreatSxI
namespace Go.Proofs.YtkiioneimheciaaGreat
open Go.Sx
set_option maxRecDepth 100000
noncomputable def tab : Tab := [
  (0, ⟨Tryz.t0.desc, Tryz.t0.size, Tryz.t0.bytes, Tryz.t0.zero.getD undef⟩),
  (1, ⟨Tryz.t1.desc, Tryz.t1.size, Tryz.t1.bytes, Tryz.t1.zero.getD undef⟩),
  (2, ⟨Tryz.t2.desc, Tryz.t2.size, Tryz.t2.bytes, Tryz.t2.zero.getD undef⟩),
  (3, ⟨Tryz.t3.desc, Tryz.t3.size, Tryz.t3.bytes, Tryz.t3.zero.getD undef⟩),
  (4, ⟨Tryz.t4.desc, Tryz.t4.size, Tryz.t4.bytes, Tryz.t4.zero.getD undef⟩),
  (5, ⟨Tryz.t5.desc, Tryz.t5.size, Tryz.t5.bytes, Tryz.t5.zero.getD undef⟩),
  (6, ⟨Tryz.t5.desc, Tryz.t6.size, Tryz.t6.bytes, Tryz.t6.zero.getD undef⟩),
  (7, ⟨Tryz.t7.desc, Tryz.t7.size, Tryz.t7.bytes, Tryz.t7.zero.getD undef⟩),
  (8, ⟨Tryz.t7.desc, Tryz.t8.size, Tryz.t8.bytes, Tryz.t8.zero.getD undef⟩),
  (9, ⟨Tryz.t9.desc, Tryz.t9.size, Tryz.t9.bytes, Tryz.t9.zero.getD undef⟩),
  (10, ⟨Tryz.t9.desc, Tryz.t10.size, Tryz.t10.bytes, Tryz.t10.zero.getD undef⟩),
  (11, ⟨Tryz.t9.desc, Tryz.t11.size, Tryz.t11.bytes, Tryz.t11.zero.getD undef⟩),
  (12, ⟨Tryz.t12.desc, Tryz.t12.size, Tryz.t12.bytes, Tryz.t12.zero.getD undef⟩),
  (13, ⟨Tryz.t13.desc, Tryz.t13.size, Tryz.t13.bytes, Tryz.t13.zero.getD undef⟩),
  (14, ⟨Tryz.t13.desc, Tryz.t14.size, Tryz.t14.bytes, Tryz.t14.zero.getD undef⟩),
  (15, ⟨Tryz.t15.desc, Tryz.t15.size, Tryz.t15.bytes, Tryz.t15.zero.getD undef⟩),
  (16, ⟨Tryz.t16.desc, Tryz.t16.size, Tryz.t16.bytes, Tryz.t16.zero.getD undef⟩),
  (17, ⟨Tryz.t17.desc, Tryz.t17.size, Tryz.t17.bytes, Tryz.t17.zero.getD undef⟩),
  (18, ⟨Tryz.t18.desc, Tryz.t18.size, Tryz.t18.bytes, Tryz.t18.zero.getD undef⟩),
  (19, ⟨Tryz.t18.desc, Tryz.t19.size, Tryz.t19.bytes, Tryz.t19.zero.getD undef⟩),
  (20, ⟨Tryz.t20.desc, Tryz.t20.size, Tryz.t20.bytes, Tryz.t20.zero.getD undef⟩),
  (21, ⟨Tryz.t21.desc, Tryz.t21.size, Tryz.t21.bytes, Tryz.t21.zero.getD undef⟩),
  (22, ⟨Tryz.t22.desc, Tryz.t22.size, Tryz.t22.bytes, Tryz.t22.zero.getD undef⟩),
  (23, ⟨Tryz.t23.desc, Tryz.t23.size, Tryz.t23.bytes, Tryz.t23.zero.getD undef⟩),
  (24, ⟨Tryz.t24.desc, Tryz.t24.size, Tryz.t24.bytes, Tryz.t24.zero.getD undef⟩),
  (25, ⟨Tryz.t25.desc, Tryz.t25.size, Tryz.t25.bytes, Tryz.t25.zero.getD undef⟩),
  (26, ⟨Tryz.t26.desc, Tryz.t26.size, Tryz.t26.bytes, Tryz.t26.zero.getD undef⟩),
  (27, ⟨Tryz.t27.desc, Tryz.t27.size, Tryz.t27.bytes, Tryz.t27.zero.getD undef⟩),
  (28, ⟨Tryz.t28.desc, Tryz.t28.size, Tryz.t28.bytes, Tryz.t28.zero.getD undef⟩),
  (29, ⟨Tryz.t29.desc, Tryz.t29.size, Tryz.t29.bytes, Tryz.t29.zero.getD undef⟩),
  (30, ⟨Tryz.t30.desc, Tryz.t30.size, Tryz.t30.bytes, Tryz.t30.zero.getD undef⟩),
  (31, ⟨Tryz.t31.desc, Tryz.t31.size, Tryz.t31.bytes, Tryz.t31.zero.getD undef⟩),
  (32, ⟨Tryz.t32.desc, Tryz.t32.size, Tryz.t32.bytes, Tryz.t32.zero.getD undef⟩),
  (33, ⟨Tryz.t32.desc, Tryz.t33.size, Tryz.t33.bytes, Tryz.t33.zero.getD undef⟩),
  (34, ⟨Tryz.t34.desc, Tryz.t34.size, Tryz.t34.bytes, Tryz.t34.zero.getD undef⟩),
  (35, ⟨Tryz.t35.desc, Tryz.t35.size, Tryz.t35.bytes, Tryz.t35.zero.getD undef⟩),
  (36, ⟨Tryz.t36.desc, Tryz.t36.size, Tryz.t36.bytes, Tryz.t36.zero.getD undef⟩),
  (37, ⟨Tryz.t37.desc, Tryz.t37.size, Tryz.t37.bytes, Tryz.t37.zero.getD undef⟩),
  (38, ⟨Tryz.t3.desc, Tryz.t38.size, Tryz.t38.bytes, Tryz.t38.zero.getD undef⟩),
  (39, ⟨Tryz.t39.desc, Tryz.t39.size, Tryz.t39.bytes, Tryz.t39.zero.getD undef⟩),
  (40, ⟨Tryz.t40.desc, Tryz.t40.size, Tryz.t40.bytes, Tryz.t40.zero.getD undef⟩),
  (41, ⟨Tryz.t41.desc, Tryz.t41.size, Tryz.t41.bytes, Tryz.t41.zero.getD undef⟩),
  (42, ⟨Tryz.t42.desc, Tryz.t42.size, Tryz.t42.bytes, Tryz.t42.zero.getD undef⟩),
  (43, ⟨Tryz.t42.desc, Tryz.t43.size, Tryz.t43.bytes, Tryz.t43.zero.getD undef⟩),
  (44, ⟨Tryz.t44.desc, Tryz.t44.size, Tryz.t44.bytes, Tryz.t44.zero.getD undef⟩),
  (45, ⟨Tryz.t44.desc, Tryz.t45.size, Tryz.t45.bytes, Tryz.t45.zero.getD undef⟩),
  (46, ⟨Tryz.t46.desc, Tryz.t46.size, Tryz.t46.bytes, Tryz.t46.zero.getD undef⟩),
  (47, ⟨Tryz.t47.desc, Tryz.t47.size, Tryz.t47.bytes, Tryz.t47.zero.getD undef⟩),
  (48, ⟨Tryz.t48.desc, Tryz.t48.size, Tryz.t48.bytes, Tryz.t48.zero.getD undef⟩),
  (49, ⟨Tryz.t48.desc, Tryz.t49.size, Tryz.t49.bytes, Tryz.t49.zero.getD undef⟩),
  (50, ⟨Tryz.t50.desc, Tryz.t50.size, Tryz.t50.bytes, Tryz.t50.zero.getD undef⟩),
  (51, ⟨Tryz.t51.desc, Tryz.t51.size, Tryz.t51.bytes, Tryz.t51.zero.getD undef⟩),
  (52, ⟨Tryz.t52.desc, Tryz.t52.size, Tryz.t52.bytes, Tryz.t52.zero.getD undef⟩),
  (53, ⟨Tryz.t53.desc, Tryz.t53.size, Tryz.t53.bytes, Tryz.t53.zero.getD undef⟩),
  (54, ⟨Tryz.t53.desc, Tryz.t54.size, Tryz.t54.bytes, Tryz.t54.zero.getD undef⟩),
  (55, ⟨Tryz.t55.desc, Tryz.t55.size, Tryz.t55.bytes, Tryz.t55.zero.getD undef⟩),
  (56, ⟨Tryz.t56.desc, Tryz.t56.size, Tryz.t56.bytes, Tryz.t56.zero.getD undef⟩),
  (57, ⟨Tryz.t56.desc, Tryz.t57.size, Tryz.t57.bytes, Tryz.t57.zero.getD undef⟩),
  (58, ⟨Tryz.t58.desc, Tryz.t58.size, Tryz.t58.bytes, Tryz.t58.zero.getD undef⟩),
  (59, ⟨Tryz.t59.desc, Tryz.t59.size, Tryz.t59.bytes, Tryz.t59.zero.getD undef⟩),
  (60, ⟨Tryz.t60.desc, Tryz.t60.size, Tryz.t60.bytes, Tryz.t60.zero.getD undef⟩),
  (61, ⟨Tryz.t61.desc, Tryz.t61.size, Tryz.t61.bytes, Tryz.t61.zero.getD undef⟩),
  (62, ⟨Tryz.t62.desc, Tryz.t62.size, Tryz.t62.bytes, Tryz.t62.zero.getD undef⟩),
  (63, ⟨Tryz.t62.desc, Tryz.t63.size, Tryz.t63.bytes, Tryz.t63.zero.getD undef⟩),
  (64, ⟨Tryz.t64.desc, Tryz.t64.size, Tryz.t64.bytes, Tryz.t64.zero.getD undef⟩),
  (65, ⟨Tryz.t64.desc, Tryz.t65.size, Tryz.t65.bytes, Tryz.t65.zero.getD undef⟩),
  (66, ⟨Tryz.t66.desc, Tryz.t66.size, Tryz.t66.bytes, Tryz.t66.zero.getD undef⟩),
  (67, ⟨Tryz.t67.desc, Tryz.t67.size, Tryz.t67.bytes, Tryz.t67.zero.getD undef⟩),
  (68, ⟨Tryz.t68.desc, Tryz.t68.size, Tryz.t68.bytes, Tryz.t68.zero.getD undef⟩),
  (69, ⟨Tryz.t69.desc, Tryz.t69.size, Tryz.t69.bytes, Tryz.t69.zero.getD undef⟩),
  (70, ⟨Tryz.t70.desc, Tryz.t70.size, Tryz.t70.bytes, Tryz.t70.zero.getD undef⟩),
  (71, ⟨Tryz.t71.desc, Tryz.t71.size, Tryz.t71.bytes, Tryz.t71.zero.getD undef⟩),
  (72, ⟨Tryz.t72.desc, Tryz.t72.size, Tryz.t72.bytes, Tryz.t72.zero.getD undef⟩),
  (73, ⟨Tryz.t72.desc, Tryz.t73.size, Tryz.t73.bytes, Tryz.t73.zero.getD undef⟩),
  (74, ⟨Tryz.t74.desc, Tryz.t74.size, Tryz.t74.bytes, Tryz.t74.zero.getD undef⟩),
  (75, ⟨Tryz.t75.desc, Tryz.t75.size, Tryz.t75.bytes, Tryz.t75.zero.getD undef⟩),
  (76, ⟨Tryz.t76.desc, Tryz.t76.size, Tryz.t76.bytes, Tryz.t76.zero.getD undef⟩),
  (77, ⟨Tryz.t77.desc, Tryz.t77.size, Tryz.t77.bytes, Tryz.t77.zero.getD undef⟩),
  (78, ⟨Tryz.t78.desc, Tryz.t78.size, Tryz.t78.bytes, Tryz.t78.zero.getD undef⟩),
  (79, ⟨Tryz.t79.desc, Tryz.t79.size, Tryz.t79.bytes, Tryz.t79.zero.getD undef⟩),
  (80, ⟨Tryz.t79.desc, Tryz.t80.size, Tryz.t80.bytes, Tryz.t80.zero.getD undef⟩),
  (81, ⟨Tryz.t81.desc, Tryz.t81.size, Tryz.t81.bytes, Tryz.t81.zero.getD undef⟩),
  (82, ⟨Tryz.t79.desc, Tryz.t82.size, Tryz.t82.bytes, Tryz.t82.zero.getD undef⟩),
  (83, ⟨Tryz.t83.desc, Tryz.t83.size, Tryz.t83.bytes, Tryz.t83.zero.getD undef⟩),
  (84, ⟨Tryz.t84.desc, Tryz.t84.size, Tryz.t84.bytes, Tryz.t84.zero.getD undef⟩),
  (85, ⟨Tryz.t84.desc, Tryz.t85.size, Tryz.t85.bytes, Tryz.t85.zero.getD undef⟩),
  (86, ⟨Tryz.t86.desc, Tryz.t86.size, Tryz.t86.bytes, Tryz.t86.zero.getD undef⟩),
  (87, ⟨Tryz.t87.desc, Tryz.t87.size, Tryz.t87.bytes, Tryz.t87.zero.getD undef⟩),
  (88, ⟨Tryz.t87.desc, Tryz.t88.size, Tryz.t88.bytes, Tryz.t88.zero.getD undef⟩),
  (89, ⟨Tryz.t89.desc, Tryz.t89.size, Tryz.t89.bytes, Tryz.t89.zero.getD undef⟩),
  (90, ⟨Tryz.t89.desc, Tryz.t90.size, Tryz.t90.bytes, Tryz.t90.zero.getD undef⟩),
  (91, ⟨Tryz.t91.desc, Tryz.t91.size, Tryz.t91.bytes, Tryz.t91.zero.getD undef⟩),
  (92, ⟨Tryz.t91.desc, Tryz.t92.size, Tryz.t92.bytes, Tryz.t92.zero.getD undef⟩),
  (93, ⟨Tryz.t93.desc, Tryz.t93.size, Tryz.t93.bytes, Tryz.t93.zero.getD undef⟩),
  (94, ⟨Tryz.t94.desc, Tryz.t94.size, Tryz.t94.bytes, Tryz.t94.zero.getD undef⟩),
  (95, ⟨Tryz.t94.desc, Tryz.t95.size, Tryz.t95.bytes, Tryz.t95.zero.getD undef⟩),
  (96, ⟨Tryz.t96.desc, Tryz.t96.size, Tryz.t96.bytes, Tryz.t96.zero.getD undef⟩),
  (97, ⟨Tryz.t96.desc, Tryz.t97.size, Tryz.t97.bytes, Tryz.t97.zero.getD undef⟩),
  (98, ⟨Tryz.t98.desc, Tryz.t98.size, Tryz.t98.bytes, Tryz.t98.zero.getD undef⟩),
  (99, ⟨Tryz.t99.desc, Tryz.t99.size, Tryz.t99.bytes, Tryz.t99.zero.getD undef⟩),
  (100, ⟨Tryz.t100.desc, Tryz.t100.size, Tryz.t100.bytes, Tryz.t100.zero.getD undef⟩),
  (101, ⟨Tryz.t101.desc, Tryz.t101.size, Tryz.t101.bytes, Tryz.t101.zero.getD undef⟩),
  (102, ⟨Tryz.t102.desc, Tryz.t102.size, Tryz.t102.bytes, Tryz.t102.zero.getD undef⟩),
  (103, ⟨Tryz.t103.desc, Tryz.t103.size, Tryz.t103.bytes, Tryz.t103.zero.getD undef⟩),
  (104, ⟨Tryz.t104.desc, Tryz.t104.size, Tryz.t104.bytes, Tryz.t104.zero.getD undef⟩),
  (105, ⟨Tryz.t105.desc, Tryz.t105.size, Tryz.t105.bytes, Tryz.t105.zero.getD undef⟩),
  (106, ⟨Tryz.t106.desc, Tryz.t106.size, Tryz.t106.bytes, Tryz.t106.zero.getD undef⟩),
  (107, ⟨Tryz.t107.desc, Tryz.t107.size, Tryz.t107.bytes, Tryz.t107.zero.getD undef⟩),
  (108, ⟨Tryz.t108.desc, Tryz.t108.size, Tryz.t108.bytes, Tryz.t108.zero.getD undef⟩),
  (109, ⟨Tryz.t109.desc, Tryz.t109.size, Tryz.t109.bytes, Tryz.t109.zero.getD undef⟩),
  (110, ⟨Tryz.t110.desc, Tryz.t110.size, Tryz.t110.bytes, Tryz.t110.zero.getD undef⟩),
  (111, ⟨Tryz.t111.desc, Tryz.t111.size, Tryz.t111.bytes, Tryz.t111.zero.getD undef⟩),
  (112, ⟨Tryz.t112.desc, Tryz.t112.size, Tryz.t112.bytes, Tryz.t112.zero.getD undef⟩),
  (113, ⟨Tryz.t113.desc, Tryz.t113.size, Tryz.t113.bytes, Tryz.t113.zero.getD undef⟩),
  (114, ⟨Tryz.t114.desc, Tryz.t114.size, Tryz.t114.bytes, Tryz.t114.zero.getD undef⟩),
  (115, ⟨Tryz.t115.desc, Tryz.t115.size, Tryz.t115.bytes, Tryz.t115.zero.getD undef⟩),
  (116, ⟨Tryz.t116.desc, Tryz.t116.size, Tryz.t116.bytes, Tryz.t116.zero.getD undef⟩),
  (117, ⟨Tryz.t117.desc, Tryz.t117.size, Tryz.t117.bytes, Tryz.t117.zero.getD undef⟩),
  (118, ⟨Tryz.t118.desc, Tryz.t118.size, Tryz.t118.bytes, Tryz.t118.zero.getD undef⟩),
  (119, ⟨Tryz.t119.desc, Tryz.t119.size, Tryz.t119.bytes, Tryz.t119.zero.getD undef⟩),
  (120, ⟨Tryz.t120.desc, Tryz.t120.size, Tryz.t120.bytes, Tryz.t120.zero.getD undef⟩),
  (121, ⟨Tryz.t121.desc, Tryz.t121.size, Tryz.t121.bytes, Tryz.t121.zero.getD undef⟩),
  (122, ⟨Tryz.t122.desc, Tryz.t122.size, Tryz.t122.bytes, Tryz.t122.zero.getD undef⟩),
  (123, ⟨Tryz.t123.desc, Tryz.t123.size, Tryz.t123.bytes, Tryz.t123.zero.getD undef⟩),
  (124, ⟨Tryz.t124.desc, Tryz.t124.size, Tryz.t124.bytes, Tryz.t124.zero.getD undef⟩),
  (125, ⟨Tryz.t125.desc, Tryz.t125.size, Tryz.t125.bytes, Tryz.t125.zero.getD undef⟩),
  (126, ⟨Tryz.t126.desc, Tryz.t126.size, Tryz.t126.bytes, Tryz.t126.zero.getD undef⟩),
  (127, ⟨Tryz.t127.desc, Tryz.t127.size, Tryz.t127.bytes, Tryz.t127.zero.getD undef⟩),
  (128, ⟨Tryz.t128.desc, Tryz.t128.size, Tryz.t128.bytes, Tryz.t128.zero.getD undef⟩),
  (129, ⟨Tryz.t129.desc, Tryz.t129.size, Tryz.t129.bytes, Tryz.t129.zero.getD undef⟩),
  (130, ⟨Tryz.t130.desc, Tryz.t130.size, Tryz.t130.bytes, Tryz.t130.zero.getD undef⟩),
  (131, ⟨Tryz.t131.desc, Tryz.t131.size, Tryz.t131.bytes, Tryz.t131.zero.getD undef⟩),
  (132, ⟨Tryz.t132.desc, Tryz.t132.size, Tryz.t132.bytes, Tryz.t132.zero.getD undef⟩),
  (133, ⟨Tryz.t133.desc, Tryz.t133.size, Tryz.t133.bytes, Tryz.t133.zero.getD undef⟩),
  (134, ⟨Tryz.t134.desc, Tryz.t134.size, Tryz.t134.bytes, Tryz.t134.zero.getD undef⟩),
  (135, ⟨Tryz.t135.desc, Tryz.t135.size, Tryz.t135.bytes, Tryz.t135.zero.getD undef⟩),
  (136, ⟨Tryz.t136.desc, Tryz.t136.size, Tryz.t136.bytes, Tryz.t136.zero.getD undef⟩),
  (137, ⟨Tryz.t137.desc, Tryz.t137.size, Tryz.t137.bytes, Tryz.t137.zero.getD undef⟩),
  (138, ⟨Tryz.t138.desc, Tryz.t138.size, Tryz.t138.bytes, Tryz.t138.zero.getD undef⟩),
  (139, ⟨Tryz.t139.desc, Tryz.t139.size, Tryz.t139.bytes, Tryz.t139.zero.getD undef⟩),
  (140, ⟨Tryz.t140.desc, Tryz.t140.size, Tryz.t140.bytes, Tryz.t140.zero.getD undef⟩),
  (141, ⟨Tryz.t141.desc, Tryz.t141.size, Tryz.t141.bytes, Tryz.t141.zero.getD undef⟩),
  (142, ⟨Tryz.t142.desc, Tryz.t142.size, Tryz.t142.bytes, Tryz.t142.zero.getD undef⟩),
  (143, ⟨Tryz.t143.desc, Tryz.t143.size, Tryz.t143.bytes, Tryz.t143.zero.getD undef⟩),
  (144, ⟨Tryz.t144.desc, Tryz.t144.size, Tryz.t144.bytes, Tryz.t144.zero.getD undef⟩),
  (145, ⟨Tryz.t145.desc, Tryz.t145.size, Tryz.t145.bytes, Tryz.t145.zero.getD undef⟩),
  (146, ⟨Tryz.t146.desc, Tryz.t146.size, Tryz.t146.bytes, Tryz.t146.zero.getD undef⟩),
  (147, ⟨Tryz.t147.desc, Tryz.t147.size, Tryz.t147.bytes, Tryz.t147.zero.getD undef⟩),
  (148, ⟨Tryz.t148.desc, Tryz.t148.size, Tryz.t148.bytes, Tryz.t148.zero.getD undef⟩),
  (149, ⟨Tryz.t149.desc, Tryz.t149.size, Tryz.t149.bytes, Tryz.t149.zero.getD undef⟩),
  (150, ⟨Tryz.t149.desc, Tryz.t150.size, Tryz.t150.bytes, Tryz.t150.zero.getD undef⟩),
  (151, ⟨Tryz.t151.desc, Tryz.t151.size, Tryz.t151.bytes, Tryz.t151.zero.getD undef⟩),
  (152, ⟨Tryz.t152.desc, Tryz.t152.size, Tryz.t152.bytes, Tryz.t152.zero.getD undef⟩),
  (153, ⟨Tryz.t152.desc, Tryz.t153.size, Tryz.t153.bytes, Tryz.t153.zero.getD undef⟩),
  (154, ⟨Tryz.t154.desc, Tryz.t154.size, Tryz.t154.bytes, Tryz.t154.zero.getD undef⟩),
  (155, ⟨Tryz.t155.desc, Tryz.t155.size, Tryz.t155.bytes, Tryz.t155.zero.getD undef⟩),
  (156, ⟨Tryz.t156.desc, Tryz.t156.size, Tryz.t156.bytes, Tryz.t156.zero.getD undef⟩),
  (157, ⟨Tryz.t157.desc, Tryz.t157.size, Tryz.t157.bytes, Tryz.t157.zero.getD undef⟩),
  (158, ⟨Tryz.t158.desc, Tryz.t158.size, Tryz.t158.bytes, Tryz.t158.zero.getD undef⟩),
  (159, ⟨Tryz.t159.desc, Tryz.t159.size, Tryz.t159.bytes, Tryz.t159.zero.getD undef⟩),
  (160, ⟨Tryz.t160.desc, Tryz.t160.size, Tryz.t160.bytes, Tryz.t160.zero.getD undef⟩),
  (161, ⟨Tryz.t161.desc, Tryz.t161.size, Tryz.t161.bytes, Tryz.t161.zero.getD undef⟩),
  (162, ⟨Tryz.t162.desc, Tryz.t162.size, Tryz.t162.bytes, Tryz.t162.zero.getD undef⟩),
  (163, ⟨Tryz.t163.desc, Tryz.t163.size, Tryz.t163.bytes, Tryz.t163.zero.getD undef⟩),
  (164, ⟨Tryz.t164.desc, Tryz.t164.size, Tryz.t164.bytes, Tryz.t164.zero.getD undef⟩),
  (165, ⟨Tryz.t165.desc, Tryz.t165.size, Tryz.t165.bytes, Tryz.t165.zero.getD undef⟩),
  (166, ⟨Tryz.t166.desc, Tryz.t166.size, Tryz.t166.bytes, Tryz.t166.zero.getD undef⟩),
  (167, ⟨Tryz.t167.desc, Tryz.t167.size, Tryz.t167.bytes, Tryz.t167.zero.getD undef⟩),
  (168, ⟨Tryz.t168.desc, Tryz.t168.size, Tryz.t168.bytes, Tryz.t168.zero.getD undef⟩),
  (169, ⟨Tryz.t169.desc, Tryz.t169.size, Tryz.t169.bytes, Tryz.t169.zero.getD undef⟩),
  (170, ⟨Tryz.t170.desc, Tryz.t170.size, Tryz.t170.bytes, Tryz.t170.zero.getD undef⟩),
  (171, ⟨Tryz.t171.desc, Tryz.t171.size, Tryz.t171.bytes, Tryz.t171.zero.getD undef⟩),
  (172, ⟨Tryz.t171.desc, Tryz.t172.size, Tryz.t172.bytes, Tryz.t172.zero.getD undef⟩),
  (173, ⟨Tryz.t173.desc, Tryz.t173.size, Tryz.t173.bytes, Tryz.t173.zero.getD undef⟩),
  (174, ⟨Tryz.t174.desc, Tryz.t174.size, Tryz.t174.bytes, Tryz.t174.zero.getD undef⟩),
  (175, ⟨Tryz.t175.desc, Tryz.t175.size, Tryz.t175.bytes, Tryz.t175.zero.getD undef⟩),
  (176, ⟨Tryz.t176.desc, Tryz.t176.size, Tryz.t176.bytes, Tryz.t176.zero.getD undef⟩),
  (177, ⟨Tryz.t177.desc, Tryz.t177.size, Tryz.t177.bytes, Tryz.t177.zero.getD undef⟩),
  (178, ⟨Tryz.t178.desc, Tryz.t178.size, Tryz.t178.bytes, Tryz.t178.zero.getD undef⟩),
  (179, ⟨Tryz.t178.desc, Tryz.t179.size, Tryz.t179.bytes, Tryz.t179.zero.getD undef⟩),
  (180, ⟨Tryz.t180.desc, Tryz.t180.size, Tryz.t180.bytes, Tryz.t180.zero.getD undef⟩),
  (181, ⟨Tryz.t181.desc, Tryz.t181.size, Tryz.t181.bytes, Tryz.t181.zero.getD undef⟩),
  (182, ⟨Tryz.t182.desc, Tryz.t182.size, Tryz.t182.bytes, Tryz.t182.zero.getD undef⟩),
  (183, ⟨Tryz.t183.desc, Tryz.t183.size, Tryz.t183.bytes, Tryz.t183.zero.getD undef⟩),
  (184, ⟨Tryz.t184.desc, Tryz.t184.size, Tryz.t184.bytes, Tryz.t184.zero.getD undef⟩),
  (185, ⟨Tryz.t185.desc, Tryz.t185.size, Tryz.t185.bytes, Tryz.t185.zero.getD undef⟩),
  (186, ⟨Tryz.t186.desc, Tryz.t186.size, Tryz.t186.bytes, Tryz.t186.zero.getD undef⟩),
  (187, ⟨Tryz.t187.desc, Tryz.t187.size, Tryz.t187.bytes, Tryz.t187.zero.getD undef⟩),
  (188, ⟨Tryz.t188.desc, Tryz.t188.size, Tryz.t188.bytes, Tryz.t188.zero.getD undef⟩),
  (189, ⟨Tryz.t189.desc, Tryz.t189.size, Tryz.t189.bytes, Tryz.t189.zero.getD undef⟩),
  (190, ⟨Tryz.t190.desc, Tryz.t190.size, Tryz.t190.bytes, Tryz.t190.zero.getD undef⟩),
  (191, ⟨Tryz.t191.desc, Tryz.t191.size, Tryz.t191.bytes, Tryz.t191.zero.getD undef⟩),
  (192, ⟨Tryz.t192.desc, Tryz.t192.size, Tryz.t192.bytes, Tryz.t192.zero.getD undef⟩),
  (193, ⟨Tryz.t193.desc, Tryz.t193.size, Tryz.t193.bytes, Tryz.t193.zero.getD undef⟩),
  (194, ⟨Tryz.t194.desc, Tryz.t194.size, Tryz.t194.bytes, Tryz.t194.zero.getD undef⟩),
  (195, ⟨Tryz.t195.desc, Tryz.t195.size, Tryz.t195.bytes, Tryz.t195.zero.getD undef⟩),
  (196, ⟨Tryz.t196.desc, Tryz.t196.size, Tryz.t196.bytes, Tryz.t196.zero.getD undef⟩),
  (197, ⟨Tryz.t197.desc, Tryz.t197.size, Tryz.t197.bytes, Tryz.t197.zero.getD undef⟩),
  (198, ⟨Tryz.t198.desc, Tryz.t198.size, Tryz.t198.bytes, Tryz.t198.zero.getD undef⟩),
  (199, ⟨Tryz.t199.desc, Tryz.t199.size, Tryz.t199.bytes, Tryz.t199.zero.getD undef⟩),
  (200, ⟨Tryz.t200.desc, Tryz.t200.size, Tryz.t200.bytes, Tryz.t200.zero.getD undef⟩),
  (201, ⟨Tryz.t201.desc, Tryz.t201.size, Tryz.t201.bytes, Tryz.t201.zero.getD undef⟩),
  (202, ⟨Tryz.t201.desc, Tryz.t202.size, Tryz.t202.bytes, Tryz.t202.zero.getD undef⟩),
  (203, ⟨Tryz.t203.desc, Tryz.t203.size, Tryz.t203.bytes, Tryz.t203.zero.getD undef⟩),
  (204, ⟨Tryz.t204.desc, Tryz.t204.size, Tryz.t204.bytes, Tryz.t204.zero.getD undef⟩),
  (205, ⟨Tryz.t205.desc, Tryz.t205.size, Tryz.t205.bytes, Tryz.t205.zero.getD undef⟩),
  (206, ⟨Tryz.t206.desc, Tryz.t206.size, Tryz.t206.bytes, Tryz.t206.zero.getD undef⟩),
  (207, ⟨Tryz.t207.desc, Tryz.t207.size, Tryz.t207.bytes, Tryz.t207.zero.getD undef⟩),
  (208, ⟨Tryz.t207.desc, Tryz.t208.size, Tryz.t208.bytes, Tryz.t208.zero.getD undef⟩),
  (209, ⟨Tryz.t209.desc, Tryz.t209.size, Tryz.t209.bytes, Tryz.t209.zero.getD undef⟩),
  (210, ⟨Tryz.t210.desc, Tryz.t210.size, Tryz.t210.bytes, Tryz.t210.zero.getD undef⟩),
  (211, ⟨Tryz.t211.desc, Tryz.t211.size, Tryz.t211.bytes, Tryz.t211.zero.getD undef⟩),
  (212, ⟨Tryz.t212.desc, Tryz.t212.size, Tryz.t212.bytes, Tryz.t212.zero.getD undef⟩),
  (213, ⟨Tryz.t213.desc, Tryz.t213.size, Tryz.t213.bytes, Tryz.t213.zero.getD undef⟩),
  (214, ⟨Tryz.t214.desc, Tryz.t214.size, Tryz.t214.bytes, Tryz.t214.zero.getD undef⟩),
  (215, ⟨Tryz.t215.desc, Tryz.t215.size, Tryz.t215.bytes, Tryz.t215.zero.getD undef⟩),
  (216, ⟨Tryz.t216.desc, Tryz.t216.size, Tryz.t216.bytes, Tryz.t216.zero.getD undef⟩),
  (217, ⟨Tryz.t217.desc, Tryz.t217.size, Tryz.t217.bytes, Tryz.t217.zero.getD undef⟩),
  (218, ⟨Tryz.t218.desc, Tryz.t218.size, Tryz.t218.bytes, Tryz.t218.zero.getD undef⟩),
  (219, ⟨Tryz.t219.desc, Tryz.t219.size, Tryz.t219.bytes, Tryz.t219.zero.getD undef⟩),
  (220, ⟨Tryz.t220.desc, Tryz.t220.size, Tryz.t220.bytes, Tryz.t220.zero.getD undef⟩),
  (221, ⟨Tryz.t221.desc, Tryz.t221.size, Tryz.t221.bytes, Tryz.t221.zero.getD undef⟩),
  (222, ⟨Tryz.t222.desc, Tryz.t222.size, Tryz.t222.bytes, Tryz.t222.zero.getD undef⟩),
  (223, ⟨Tryz.t223.desc, Tryz.t223.size, Tryz.t223.bytes, Tryz.t223.zero.getD undef⟩),
  (224, ⟨Tryz.t224.desc, Tryz.t224.size, Tryz.t224.bytes, Tryz.t224.zero.getD undef⟩),
  (225, ⟨Tryz.t225.desc, Tryz.t225.size, Tryz.t225.bytes, Tryz.t225.zero.getD undef⟩),
  (226, ⟨Tryz.t226.desc, Tryz.t226.size, Tryz.t226.bytes, Tryz.t226.zero.getD undef⟩),
  (227, ⟨Tryz.t227.desc, Tryz.t227.size, Tryz.t227.bytes, Tryz.t227.zero.getD undef⟩),
  (228, ⟨Tryz.t228.desc, Tryz.t228.size, Tryz.t228.bytes, Tryz.t228.zero.getD undef⟩),
  (229, ⟨Tryz.t229.desc, Tryz.t229.size, Tryz.t229.bytes, Tryz.t229.zero.getD undef⟩),
  (230, ⟨Tryz.t230.desc, Tryz.t230.size, Tryz.t230.bytes, Tryz.t230.zero.getD undef⟩),
  (231, ⟨Tryz.t231.desc, Tryz.t231.size, Tryz.t231.bytes, Tryz.t231.zero.getD undef⟩),
  (232, ⟨Tryz.t232.desc, Tryz.t232.size, Tryz.t232.bytes, Tryz.t232.zero.getD undef⟩),
  (233, ⟨Tryz.t233.desc, Tryz.t233.size, Tryz.t233.bytes, Tryz.t233.zero.getD undef⟩),
  (234, ⟨Tryz.t234.desc, Tryz.t234.size, Tryz.t234.bytes, Tryz.t234.zero.getD undef⟩),
  (235, ⟨Tryz.t235.desc, Tryz.t235.size, Tryz.t235.bytes, Tryz.t235.zero.getD undef⟩),
  (236, ⟨Tryz.t236.desc, Tryz.t236.size, Tryz.t236.bytes, Tryz.t236.zero.getD undef⟩),
  (237, ⟨Tryz.t237.desc, Tryz.t237.size, Tryz.t237.bytes, Tryz.t237.zero.getD undef⟩),
  (238, ⟨Tryz.t238.desc, Tryz.t238.size, Tryz.t238.bytes, Tryz.t238.zero.getD undef⟩),
  (239, ⟨Tryz.t239.desc, Tryz.t239.size, Tryz.t239.bytes, Tryz.t239.zero.getD undef⟩),
  (240, ⟨Tryz.t240.desc, Tryz.t240.size, Tryz.t240.bytes, Tryz.t240.zero.getD undef⟩),
  (241, ⟨Tryz.t241.desc, Tryz.t241.size, Tryz.t241.bytes, Tryz.t241.zero.getD undef⟩),
  (242, ⟨Tryz.t242.desc, Tryz.t242.size, Tryz.t242.bytes, Tryz.t242.zero.getD undef⟩),
  (243, ⟨Tryz.t243.desc, Tryz.t243.size, Tryz.t243.bytes, Tryz.t243.zero.getD undef⟩),
  (244, ⟨Tryz.t244.desc, Tryz.t244.size, Tryz.t244.bytes, Tryz.t244.zero.getD undef⟩),
  (245, ⟨Tryz.t245.desc, Tryz.t245.size, Tryz.t245.bytes, Tryz.t245.zero.getD undef⟩),
  (246, ⟨Tryz.t246.desc, Tryz.t246.size, Tryz.t246.bytes, Tryz.t246.zero.getD undef⟩),
  (247, ⟨Tryz.t247.desc, Tryz.t247.size, Tryz.t247.bytes, Tryz.t247.zero.getD undef⟩),
  (248, ⟨Tryz.t248.desc, Tryz.t248.size, Tryz.t248.bytes, Tryz.t248.zero.getD undef⟩),
  (249, ⟨Tryz.t249.desc, Tryz.t249.size, Tryz.t249.bytes, Tryz.t249.zero.getD undef⟩),
  (250, ⟨Tryz.t249.desc, Tryz.t250.size, Tryz.t250.bytes, Tryz.t250.zero.getD undef⟩),
  (251, ⟨Tryz.t251.desc, Tryz.t251.size, Tryz.t251.bytes, Tryz.t251.zero.getD undef⟩),
  (252, ⟨Tryz.t252.desc, Tryz.t252.size, Tryz.t252.bytes, Tryz.t252.zero.getD undef⟩),
  (253, ⟨Tryz.t253.desc, Tryz.t253.size, Tryz.t253.bytes, Tryz.t253.zero.getD undef⟩),
  (254, ⟨Tryz.t254.desc, Tryz.t254.size, Tryz.t254.bytes, Tryz.t254.zero.getD undef⟩),
  (255, ⟨Tryz.t255.desc, Tryz.t255.size, Tryz.t255.bytes, Tryz.t255.zero.getD undef⟩),
  (256, ⟨Tryz.t255.desc, Tryz.t256.size, Tryz.t256.bytes, Tryz.t256.zero.getD undef⟩),
  (257, ⟨Tryz.t257.desc, Tryz.t257.size, Tryz.t257.bytes, Tryz.t257.zero.getD undef⟩),
  (258, ⟨Tryz.t258.desc, Tryz.t258.size, Tryz.t258.bytes, Tryz.t258.zero.getD undef⟩),
  (259, ⟨Tryz.t259.desc, Tryz.t259.size, Tryz.t259.bytes, Tryz.t259.zero.getD undef⟩),
  (260, ⟨Tryz.t260.desc, Tryz.t260.size, Tryz.t260.bytes, Tryz.t260.zero.getD undef⟩),
  (261, ⟨Tryz.t261.desc, Tryz.t261.size, Tryz.t261.bytes, Tryz.t261.zero.getD undef⟩),
  (262, ⟨Tryz.t262.desc, Tryz.t262.size, Tryz.t262.bytes, Tryz.t262.zero.getD undef⟩),
  (263, ⟨Tryz.t263.desc, Tryz.t263.size, Tryz.t263.bytes, Tryz.t263.zero.getD undef⟩),
  (264, ⟨Tryz.t264.desc, Tryz.t264.size, Tryz.t264.bytes, Tryz.t264.zero.getD undef⟩),
  (265, ⟨Tryz.t265.desc, Tryz.t265.size, Tryz.t265.bytes, Tryz.t265.zero.getD undef⟩),
  (266, ⟨Tryz.t266.desc, Tryz.t266.size, Tryz.t266.bytes, Tryz.t266.zero.getD undef⟩),
  (267, ⟨Tryz.t267.desc, Tryz.t267.size, Tryz.t267.bytes, Tryz.t267.zero.getD undef⟩),
  (268, ⟨Tryz.t268.desc, Tryz.t268.size, Tryz.t268.bytes, Tryz.t268.zero.getD undef⟩),
  (269, ⟨Tryz.t269.desc, Tryz.t269.size, Tryz.t269.bytes, Tryz.t269.zero.getD undef⟩),
  (270, ⟨Tryz.t270.desc, Tryz.t270.size, Tryz.t270.bytes, Tryz.t270.zero.getD undef⟩),
  (271, ⟨Tryz.t271.desc, Tryz.t271.size, Tryz.t271.bytes, Tryz.t271.zero.getD undef⟩),
  (272, ⟨Tryz.t272.desc, Tryz.t272.size, Tryz.t272.bytes, Tryz.t272.zero.getD undef⟩),
  (273, ⟨Tryz.t273.desc, Tryz.t273.size, Tryz.t273.bytes, Tryz.t273.zero.getD undef⟩),
  (274, ⟨Tryz.t274.desc, Tryz.t274.size, Tryz.t274.bytes, Tryz.t274.zero.getD undef⟩),
  (275, ⟨Tryz.t275.desc, Tryz.t275.size, Tryz.t275.bytes, Tryz.t275.zero.getD undef⟩),
  (276, ⟨Tryz.t275.desc, Tryz.t276.size, Tryz.t276.bytes, Tryz.t276.zero.getD undef⟩),
  (277, ⟨Tryz.t277.desc, Tryz.t277.size, Tryz.t277.bytes, Tryz.t277.zero.getD undef⟩),
  (278, ⟨Tryz.t278.desc, Tryz.t278.size, Tryz.t278.bytes, Tryz.t278.zero.getD undef⟩),
  (279, ⟨Tryz.t279.desc, Tryz.t279.size, Tryz.t279.bytes, Tryz.t279.zero.getD undef⟩),
  (280, ⟨Tryz.t280.desc, Tryz.t280.size, Tryz.t280.bytes, Tryz.t280.zero.getD undef⟩),
  (281, ⟨Tryz.t281.desc, Tryz.t281.size, Tryz.t281.bytes, Tryz.t281.zero.getD undef⟩),
  (282, ⟨Tryz.t282.desc, Tryz.t282.size, Tryz.t282.bytes, Tryz.t282.zero.getD undef⟩),
  (283, ⟨Tryz.t282.desc, Tryz.t283.size, Tryz.t283.bytes, Tryz.t283.zero.getD undef⟩),
  (284, ⟨Tryz.t284.desc, Tryz.t284.size, Tryz.t284.bytes, Tryz.t284.zero.getD undef⟩),
  (285, ⟨Tryz.t285.desc, Tryz.t285.size, Tryz.t285.bytes, Tryz.t285.zero.getD undef⟩),
  (286, ⟨Tryz.t3.desc, Tryz.t286.size, Tryz.t286.bytes, Tryz.t286.zero.getD undef⟩),
  (287, ⟨Tryz.t287.desc, Tryz.t287.size, Tryz.t287.bytes, Tryz.t287.zero.getD undef⟩),
  (288, ⟨Tryz.t288.desc, Tryz.t288.size, Tryz.t288.bytes, Tryz.t288.zero.getD undef⟩),
  (289, ⟨Tryz.t289.desc, Tryz.t289.size, Tryz.t289.bytes, Tryz.t289.zero.getD undef⟩),
  (290, ⟨Tryz.t290.desc, Tryz.t290.size, Tryz.t290.bytes, Tryz.t290.zero.getD undef⟩),
  (291, ⟨Tryz.t291.desc, Tryz.t291.size, Tryz.t291.bytes, Tryz.t291.zero.getD undef⟩),
  (292, ⟨Tryz.t292.desc, Tryz.t292.size, Tryz.t292.bytes, Tryz.t292.zero.getD undef⟩),
  (293, ⟨Tryz.t292.desc, Tryz.t293.size, Tryz.t293.bytes, Tryz.t293.zero.getD undef⟩),
  (294, ⟨Tryz.t294.desc, Tryz.t294.size, Tryz.t294.bytes, Tryz.t294.zero.getD undef⟩),
  (295, ⟨Tryz.t295.desc, Tryz.t295.size, Tryz.t295.bytes, Tryz.t295.zero.getD undef⟩),
  (296, ⟨Tryz.t296.desc, Tryz.t296.size, Tryz.t296.bytes, Tryz.t296.zero.getD undef⟩),
  (297, ⟨Tryz.t297.desc, Tryz.t297.size, Tryz.t297.bytes, Tryz.t297.zero.getD undef⟩),
  (298, ⟨Tryz.t298.desc, Tryz.t298.size, Tryz.t298.bytes, Tryz.t298.zero.getD undef⟩),
  (299, ⟨Tryz.t299.desc, Tryz.t299.size, Tryz.t299.bytes, Tryz.t299.zero.getD undef⟩),
  (300, ⟨Tryz.t300.desc, Tryz.t300.size, Tryz.t300.bytes, Tryz.t300.zero.getD undef⟩),
  (301, ⟨Tryz.t301.desc, Tryz.t301.size, Tryz.t301.bytes, Tryz.t301.zero.getD undef⟩),
  (302, ⟨Tryz.t302.desc, Tryz.t302.size, Tryz.t302.bytes, Tryz.t302.zero.getD undef⟩),
  (303, ⟨Tryz.t303.desc, Tryz.t303.size, Tryz.t303.bytes, Tryz.t303.zero.getD undef⟩),
  (304, ⟨Tryz.t304.desc, Tryz.t304.size, Tryz.t304.bytes, Tryz.t304.zero.getD undef⟩),
  (305, ⟨Tryz.t305.desc, Tryz.t305.size, Tryz.t305.bytes, Tryz.t305.zero.getD undef⟩),
  (306, ⟨Tryz.t306.desc, Tryz.t306.size, Tryz.t306.bytes, Tryz.t306.zero.getD undef⟩),
  (307, ⟨Tryz.t307.desc, Tryz.t307.size, Tryz.t307.bytes, Tryz.t307.zero.getD undef⟩),
  (308, ⟨Tryz.t308.desc, Tryz.t308.size, Tryz.t308.bytes, Tryz.t308.zero.getD undef⟩),
  (309, ⟨Tryz.t309.desc, Tryz.t309.size, Tryz.t309.bytes, Tryz.t309.zero.getD undef⟩),
  (310, ⟨Tryz.t310.desc, Tryz.t310.size, Tryz.t310.bytes, Tryz.t310.zero.getD undef⟩),
  (311, ⟨Tryz.t311.desc, Tryz.t311.size, Tryz.t311.bytes, Tryz.t311.zero.getD undef⟩),
  (312, ⟨Tryz.t312.desc, Tryz.t312.size, Tryz.t312.bytes, Tryz.t312.zero.getD undef⟩),
  (313, ⟨Tryz.t313.desc, Tryz.t313.size, Tryz.t313.bytes, Tryz.t313.zero.getD undef⟩),
  (314, ⟨Tryz.t314.desc, Tryz.t314.size, Tryz.t314.bytes, Tryz.t314.zero.getD undef⟩),
  (315, ⟨Tryz.t315.desc, Tryz.t315.size, Tryz.t315.bytes, Tryz.t315.zero.getD undef⟩),
  (316, ⟨Tryz.t316.desc, Tryz.t316.size, Tryz.t316.bytes, Tryz.t316.zero.getD undef⟩),
  (317, ⟨Tryz.t317.desc, Tryz.t317.size, Tryz.t317.bytes, Tryz.t317.zero.getD undef⟩),
  (318, ⟨Tryz.t317.desc, Tryz.t318.size, Tryz.t318.bytes, Tryz.t318.zero.getD undef⟩),
  (319, ⟨Tryz.t319.desc, Tryz.t319.size, Tryz.t319.bytes, Tryz.t319.zero.getD undef⟩),
  (320, ⟨Tryz.t320.desc, Tryz.t320.size, Tryz.t320.bytes, Tryz.t320.zero.getD undef⟩),
  (321, ⟨Tryz.t321.desc, Tryz.t321.size, Tryz.t321.bytes, Tryz.t321.zero.getD undef⟩),
  (322, ⟨Tryz.t322.desc, Tryz.t322.size, Tryz.t322.bytes, Tryz.t322.zero.getD undef⟩),
  (323, ⟨Tryz.t323.desc, Tryz.t323.size, Tryz.t323.bytes, Tryz.t323.zero.getD undef⟩),
  (324, ⟨Tryz.t324.desc, Tryz.t324.size, Tryz.t324.bytes, Tryz.t324.zero.getD undef⟩),
  (325, ⟨Tryz.t325.desc, Tryz.t325.size, Tryz.t325.bytes, Tryz.t325.zero.getD undef⟩),
  (326, ⟨Tryz.t326.desc, Tryz.t326.size, Tryz.t326.bytes, Tryz.t326.zero.getD undef⟩),
  (327, ⟨Tryz.t327.desc, Tryz.t327.size, Tryz.t327.bytes, Tryz.t327.zero.getD undef⟩),
  (328, ⟨Tryz.t328.desc, Tryz.t328.size, Tryz.t328.bytes, Tryz.t328.zero.getD undef⟩),
  (329, ⟨Tryz.t329.desc, Tryz.t329.size, Tryz.t329.bytes, Tryz.t329.zero.getD undef⟩),
  (330, ⟨Tryz.t330.desc, Tryz.t330.size, Tryz.t330.bytes, Tryz.t330.zero.getD undef⟩),
  (331, ⟨Tryz.t331.desc, Tryz.t331.size, Tryz.t331.bytes, Tryz.t331.zero.getD undef⟩),
  (332, ⟨Tryz.t332.desc, Tryz.t332.size, Tryz.t332.bytes, Tryz.t332.zero.getD undef⟩),
  (333, ⟨Tryz.t333.desc, Tryz.t333.size, Tryz.t333.bytes, Tryz.t333.zero.getD undef⟩),
  (334, ⟨Tryz.t334.desc, Tryz.t334.size, Tryz.t334.bytes, Tryz.t334.zero.getD undef⟩),
  (335, ⟨Tryz.t335.desc, Tryz.t335.size, Tryz.t335.bytes, Tryz.t335.zero.getD undef⟩),
  (336, ⟨Tryz.t336.desc, Tryz.t336.size, Tryz.t336.bytes, Tryz.t336.zero.getD undef⟩),
  (337, ⟨Tryz.t337.desc, Tryz.t337.size, Tryz.t337.bytes, Tryz.t337.zero.getD undef⟩),
  (338, ⟨Tryz.t338.desc, Tryz.t338.size, Tryz.t338.bytes, Tryz.t338.zero.getD undef⟩),
  (339, ⟨Tryz.t339.desc, Tryz.t339.size, Tryz.t339.bytes, Tryz.t339.zero.getD undef⟩),
  (340, ⟨Tryz.t340.desc, Tryz.t340.size, Tryz.t340.bytes, Tryz.t340.zero.getD undef⟩),
  (341, ⟨Tryz.t341.desc, Tryz.t341.size, Tryz.t341.bytes, Tryz.t341.zero.getD undef⟩),
  (342, ⟨Tryz.t342.desc, Tryz.t342.size, Tryz.t342.bytes, Tryz.t342.zero.getD undef⟩),
  (343, ⟨Tryz.t343.desc, Tryz.t343.size, Tryz.t343.bytes, Tryz.t343.zero.getD undef⟩),
  (344, ⟨Tryz.t3.desc, Tryz.t344.size, Tryz.t344.bytes, Tryz.t344.zero.getD undef⟩),
  (345, ⟨Tryz.t345.desc, Tryz.t345.size, Tryz.t345.bytes, Tryz.t345.zero.getD undef⟩),
  (346, ⟨Tryz.t346.desc, Tryz.t346.size, Tryz.t346.bytes, Tryz.t346.zero.getD undef⟩),
  (347, ⟨Tryz.t347.desc, Tryz.t347.size, Tryz.t347.bytes, Tryz.t347.zero.getD undef⟩),
  (348, ⟨Tryz.t348.desc, Tryz.t348.size, Tryz.t348.bytes, Tryz.t348.zero.getD undef⟩),
  (349, ⟨Tryz.t349.desc, Tryz.t349.size, Tryz.t349.bytes, Tryz.t349.zero.getD undef⟩),
  (350, ⟨Tryz.t350.desc, Tryz.t350.size, Tryz.t350.bytes, Tryz.t350.zero.getD undef⟩),
  (351, ⟨Tryz.t351.desc, Tryz.t351.size, Tryz.t351.bytes, Tryz.t351.zero.getD undef⟩),
  (352, ⟨Tryz.t352.desc, Tryz.t352.size, Tryz.t352.bytes, Tryz.t352.zero.getD undef⟩),
  (353, ⟨Tryz.t353.desc, Tryz.t353.size, Tryz.t353.bytes, Tryz.t353.zero.getD undef⟩),
  (354, ⟨Tryz.t354.desc, Tryz.t354.size, Tryz.t354.bytes, Tryz.t354.zero.getD undef⟩),
  (355, ⟨Tryz.t223.desc, Tryz.t355.size, Tryz.t355.bytes, Tryz.t355.zero.getD undef⟩),
  (356, ⟨Tryz.t356.desc, Tryz.t356.size, Tryz.t356.bytes, Tryz.t356.zero.getD undef⟩),
  (357, ⟨Tryz.t357.desc, Tryz.t357.size, Tryz.t357.bytes, Tryz.t357.zero.getD undef⟩),
  (358, ⟨Tryz.t358.desc, Tryz.t358.size, Tryz.t358.bytes, Tryz.t358.zero.getD undef⟩),
  (359, ⟨Tryz.t359.desc, Tryz.t359.size, Tryz.t359.bytes, Tryz.t359.zero.getD undef⟩),
  (360, ⟨Tryz.t360.desc, Tryz.t360.size, Tryz.t360.bytes, Tryz.t360.zero.getD undef⟩),
  (361, ⟨Tryz.t361.desc, Tryz.t361.size, Tryz.t361.bytes, Tryz.t361.zero.getD undef⟩),
  (362, ⟨Tryz.t362.desc, Tryz.t362.size, Tryz.t362.bytes, Tryz.t362.zero.getD undef⟩),
  (363, ⟨Tryz.t363.desc, Tryz.t363.size, Tryz.t363.bytes, Tryz.t363.zero.getD undef⟩),
  (364, ⟨Tryz.t364.desc, Tryz.t364.size, Tryz.t364.bytes, Tryz.t364.zero.getD undef⟩),
  (365, ⟨Tryz.t365.desc, Tryz.t365.size, Tryz.t365.bytes, Tryz.t365.zero.getD undef⟩),
  (366, ⟨Tryz.t366.desc, Tryz.t366.size, Tryz.t366.bytes, Tryz.t366.zero.getD undef⟩),
  (367, ⟨Tryz.t367.desc, Tryz.t367.size, Tryz.t367.bytes, Tryz.t367.zero.getD undef⟩),
  (368, ⟨Tryz.t368.desc, Tryz.t368.size, Tryz.t368.bytes, Tryz.t368.zero.getD undef⟩),
  (369, ⟨Tryz.t369.desc, Tryz.t369.size, Tryz.t369.bytes, Tryz.t369.zero.getD undef⟩),
  (370, ⟨Tryz.t370.desc, Tryz.t370.size, Tryz.t370.bytes, Tryz.t370.zero.getD undef⟩),
  (371, ⟨Tryz.t371.desc, Tryz.t371.size, Tryz.t371.bytes, Tryz.t371.zero.getD undef⟩),
  (372, ⟨Tryz.t372.desc, Tryz.t372.size, Tryz.t372.bytes, Tryz.t372.zero.getD undef⟩),
  (373, ⟨Tryz.t373.desc, Tryz.t373.size, Tryz.t373.bytes, Tryz.t373.zero.getD undef⟩),
  (374, ⟨Tryz.t374.desc, Tryz.t374.size, Tryz.t374.bytes, Tryz.t374.zero.getD undef⟩),
  (375, ⟨Tryz.t375.desc, Tryz.t375.size, Tryz.t375.bytes, Tryz.t375.zero.getD undef⟩),
  (376, ⟨Tryz.t376.desc, Tryz.t376.size, Tryz.t376.bytes, Tryz.t376.zero.getD undef⟩),
  (377, ⟨Tryz.t377.desc, Tryz.t377.size, Tryz.t377.bytes, Tryz.t377.zero.getD undef⟩),
  (378, ⟨Tryz.t378.desc, Tryz.t378.size, Tryz.t378.bytes, Tryz.t378.zero.getD undef⟩),
  (379, ⟨Tryz.t379.desc, Tryz.t379.size, Tryz.t379.bytes, Tryz.t379.zero.getD undef⟩),
  (380, ⟨Tryz.t380.desc, Tryz.t380.size, Tryz.t380.bytes, Tryz.t380.zero.getD undef⟩),
  (381, ⟨Tryz.t381.desc, Tryz.t381.size, Tryz.t381.bytes, Tryz.t381.zero.getD undef⟩),
  (382, ⟨Tryz.t382.desc, Tryz.t382.size, Tryz.t382.bytes, Tryz.t382.zero.getD undef⟩),
  (383, ⟨Tryz.t383.desc, Tryz.t383.size, Tryz.t383.bytes, Tryz.t383.zero.getD undef⟩),
  (384, ⟨Tryz.t384.desc, Tryz.t384.size, Tryz.t384.bytes, Tryz.t384.zero.getD undef⟩),
  (385, ⟨Tryz.t385.desc, Tryz.t385.size, Tryz.t385.bytes, Tryz.t385.zero.getD undef⟩),
  (386, ⟨Tryz.t385.desc, Tryz.t386.size, Tryz.t386.bytes, Tryz.t386.zero.getD undef⟩),
  (387, ⟨Tryz.t387.desc, Tryz.t387.size, Tryz.t387.bytes, Tryz.t387.zero.getD undef⟩),
  (388, ⟨Tryz.t388.desc, Tryz.t388.size, Tryz.t388.bytes, Tryz.t388.zero.getD undef⟩),
  (389, ⟨Tryz.t388.desc, Tryz.t389.size, Tryz.t389.bytes, Tryz.t389.zero.getD undef⟩),
  (390, ⟨Tryz.t390.desc, Tryz.t390.size, Tryz.t390.bytes, Tryz.t390.zero.getD undef⟩),
  (391, ⟨Tryz.t5.desc, Tryz.t391.size, Tryz.t391.bytes, Tryz.t391.zero.getD undef⟩),
  (392, ⟨Tryz.t5.desc, Tryz.t392.size, Tryz.t392.bytes, Tryz.t392.zero.getD undef⟩),
  (393, ⟨Tryz.t393.desc, Tryz.t393.size, Tryz.t393.bytes, Tryz.t393.zero.getD undef⟩),
  (394, ⟨Tryz.t394.desc, Tryz.t394.size, Tryz.t394.bytes, Tryz.t394.zero.getD undef⟩),
  (395, ⟨Tryz.t21.desc, Tryz.t395.size, Tryz.t395.bytes, Tryz.t395.zero.getD undef⟩),
  (396, ⟨Tryz.t21.desc, Tryz.t396.size, Tryz.t396.bytes, Tryz.t396.zero.getD undef⟩),
  (397, ⟨Tryz.t397.desc, Tryz.t397.size, Tryz.t397.bytes, Tryz.t397.zero.getD undef⟩),
  (398, ⟨Tryz.t397.desc, Tryz.t398.size, Tryz.t398.bytes, Tryz.t398.zero.getD undef⟩),
  (399, ⟨Tryz.t399.desc, Tryz.t399.size, Tryz.t399.bytes, Tryz.t399.zero.getD undef⟩)]
def fns : List FuncId := [2, 3, 4, 5, 6, 7, 8, 9, 10, 11, 12, 13, 14, 15, 16, 17, 18, 19, 20, 21, 22, 23, 24, 25, 26, 27, 28, 29, 30, 31, 32, 33, 34, 35, 36, 37, 38, 39, 40, 41, 42, 43, 44, 45, 46, 47, 48, 49, 50, 51, 52, 53, 54, 55, 56, 57, 58, 59, 60, 61, 62, 63, 64, 65, 66, 67, 68, 69, 70, 71, 72, 73, 74, 75, 76, 77, 78, 79, 80, 81, 82, 83, 84, 85, 86, 87, 88, 89, 90, 91, 92, 93, 94, 95, 96, 97, 98, 99, 100, 101, 102, 103, 104, 105, 106, 107, 108, 109, 110, 111, 112, 113, 114, 115, 116, 117, 118, 119, 120, 121, 122, 123, 124, 125, 126, 127, 128, 129, 130, 131, 132, 133, 134, 135, 136, 137, 138, 139, 140, 141, 142, 143, 144, 145, 146, 147, 148, 149, 150, 151, 152, 153, 154, 155, 156, 157, 158, 159, 160, 161, 162, 163, 164, 165, 166, 167, 168, 169, 170, 171, 172, 173, 174, 175, 176, 177, 178, 179, 180, 181, 182, 183, 184, 185, 186, 187, 188, 189, 190, 191, 192, 193, 194, 195, 196, 197, 198, 199, 200, 201, 202, 203, 204, 205, 206, 207, 208, 209, 210, 211, 212, 213, 214, 215, 216, 217, 218, 219, 220, 221, 222, 223, 224, 225, 226, 227, 228, 229, 230, 231, 232, 233, 234, 235, 236, 237, 238, 239, 240, 241, 242, 243, 244, 245, 246, 247, 248, 249, 250, 251, 252, 253, 254, 255, 256, 257, 258, 259, 260, 261, 262, 263, 264, 265, 266, 267, 268, 269, 270, 271, 272, 273, 274, 275, 276, 277, 278, 279, 280, 281, 282, 283, 284, 285, 286, 287, 288, 289, 290, 291, 292, 293, 294, 295, 296, 297, 298, 299, 300, 301, 302, 303, 304]
theorem te0 : TE.ok Tryz.prog 0 ⟨Tryz.t0.desc, Tryz.t0.size, Tryz.t0.bytes, Tryz.t0.zero.getD undef⟩ := ⟨Tryz.underlying0, Tryz.runUnderlying0, Tryz.sizeOf0, Tryz.zeroValue0, Tryz.isAgg0, fun w => ⟨_, Tryz.typeInfo0 w, rfl, rfl⟩, ⟨Tryz.t0, by kernel_rfl, rfl, rfl, rfl⟩⟩
theorem te1 : TE.ok Tryz.prog 1 ⟨Tryz.t1.desc, Tryz.t1.size, Tryz.t1.bytes, Tryz.t1.zero.getD undef⟩ := ⟨Tryz.underlying1, Tryz.runUnderlying1, Tryz.sizeOf1, Tryz.zeroValue1, Tryz.isAgg1, fun w => ⟨_, Tryz.typeInfo1 w, rfl, rfl⟩, ⟨Tryz.t1, by kernel_rfl, rfl, rfl, rfl⟩⟩
theorem te2 : TE.ok Tryz.prog 2 ⟨Tryz.t2.desc, Tryz.t2.size, Tryz.t2.bytes, Tryz.t2.zero.getD undef⟩ := ⟨Tryz.underlying2, Tryz.runUnderlying2, Tryz.sizeOf2, Tryz.zeroValue2, Tryz.isAgg2, fun w => ⟨_, Tryz.typeInfo2 w, rfl, rfl⟩, ⟨Tryz.t2, by kernel_rfl, rfl, rfl, rfl⟩⟩
theorem te3 : TE.ok Tryz.prog 3 ⟨Tryz.t3.desc, Tryz.t3.size, Tryz.t3.bytes, Tryz.t3.zero.getD undef⟩ := ⟨Tryz.underlying3, Tryz.runUnderlying3, Tryz.sizeOf3, Tryz.zeroValue3, Tryz.isAgg3, fun w => ⟨_, Tryz.typeInfo3 w, rfl, rfl⟩, ⟨Tryz.t3, by kernel_rfl, rfl, rfl, rfl⟩⟩
theorem te4 : TE.ok Tryz.prog 4 ⟨Tryz.t4.desc, Tryz.t4.size, Tryz.t4.bytes, Tryz.t4.zero.getD undef⟩ := ⟨Tryz.underlying4, Tryz.runUnderlying4, Tryz.sizeOf4, Tryz.zeroValue4, Tryz.isAgg4, fun w => ⟨_, Tryz.typeInfo4 w, rfl, rfl⟩, ⟨Tryz.t4, by kernel_rfl, rfl, rfl, rfl⟩⟩
theorem te5 : TE.ok Tryz.prog 5 ⟨Tryz.t5.desc, Tryz.t5.size, Tryz.t5.bytes, Tryz.t5.zero.getD undef⟩ := ⟨Tryz.underlying5, Tryz.runUnderlying5, Tryz.sizeOf5, Tryz.zeroValue5, Tryz.isAgg5, fun w => ⟨_, Tryz.typeInfo5 w, rfl, rfl⟩, ⟨Tryz.t5, by kernel_rfl, rfl, rfl, rfl⟩⟩
theorem te6 : TE.ok Tryz.prog 6 ⟨Tryz.t5.desc, Tryz.t6.size, Tryz.t6.bytes, Tryz.t6.zero.getD undef⟩ := ⟨Tryz.underlying6, Tryz.runUnderlying6, Tryz.sizeOf6, Tryz.zeroValue6, Tryz.isAgg6, fun w => ⟨_, Tryz.typeInfo6 w, rfl, rfl⟩, ⟨Tryz.t6, by kernel_rfl, rfl, rfl, rfl⟩⟩
theorem te7 : TE.ok Tryz.prog 7 ⟨Tryz.t7.desc, Tryz.t7.size, Tryz.t7.bytes, Tryz.t7.zero.getD undef⟩ := ⟨Tryz.underlying7, Tryz.runUnderlying7, Tryz.sizeOf7, Tryz.zeroValue7, Tryz.isAgg7, fun w => ⟨_, Tryz.typeInfo7 w, rfl, rfl⟩, ⟨Tryz.t7, by kernel_rfl, rfl, rfl, rfl⟩⟩
theorem te8 : TE.ok Tryz.prog 8 ⟨Tryz.t7.desc, Tryz.t8.size, Tryz.t8.bytes, Tryz.t8.zero.getD undef⟩ := ⟨Tryz.underlying8, Tryz.runUnderlying8, Tryz.sizeOf8, Tryz.zeroValue8, Tryz.isAgg8, fun w => ⟨_, Tryz.typeInfo8 w, rfl, rfl⟩, ⟨Tryz.t8, by kernel_rfl, rfl, rfl, rfl⟩⟩
theorem te9 : TE.ok Tryz.prog 9 ⟨Tryz.t9.desc, Tryz.t9.size, Tryz.t9.bytes, Tryz.t9.zero.getD undef⟩ := ⟨Tryz.underlying9, Tryz.runUnderlying9, Tryz.sizeOf9, Tryz.zeroValue9, Tryz.isAgg9, fun w => ⟨_, Tryz.typeInfo9 w, rfl, rfl⟩, ⟨Tryz.t9, by kernel_rfl, rfl, rfl, rfl⟩⟩
theorem te10 : TE.ok Tryz.prog 10 ⟨Tryz.t9.desc, Tryz.t10.size, Tryz.t10.bytes, Tryz.t10.zero.getD undef⟩ := ⟨Tryz.underlying10, Tryz.runUnderlying10, Tryz.sizeOf10, Tryz.zeroValue10, Tryz.isAgg10, fun w => ⟨_, Tryz.typeInfo10 w, rfl, rfl⟩, ⟨Tryz.t10, by kernel_rfl, rfl, rfl, rfl⟩⟩
theorem te11 : TE.ok Tryz.prog 11 ⟨Tryz.t9.desc, Tryz.t11.size, Tryz.t11.bytes, Tryz.t11.zero.getD undef⟩ := ⟨Tryz.underlying11, Tryz.runUnderlying11, Tryz.sizeOf11, Tryz.zeroValue11, Tryz.isAgg11, fun w => ⟨_, Tryz.typeInfo11 w, rfl, rfl⟩, ⟨Tryz.t11, by kernel_rfl, rfl, rfl, rfl⟩⟩
theorem te12 : TE.ok Tryz.prog 12 ⟨Tryz.t12.desc, Tryz.t12.size, Tryz.t12.bytes, Tryz.t12.zero.getD undef⟩ := ⟨Tryz.underlying12, Tryz.runUnderlying12, Tryz.sizeOf12, Tryz.zeroValue12, Tryz.isAgg12, fun w => ⟨_, Tryz.typeInfo12 w, rfl, rfl⟩, ⟨Tryz.t12, by kernel_rfl, rfl, rfl, rfl⟩⟩
theorem te13 : TE.ok Tryz.prog 13 ⟨Tryz.t13.desc, Tryz.t13.size, Tryz.t13.bytes, Tryz.t13.zero.getD undef⟩ := ⟨Tryz.underlying13, Tryz.runUnderlying13, Tryz.sizeOf13, Tryz.zeroValue13, Tryz.isAgg13, fun w => ⟨_, Tryz.typeInfo13 w, rfl, rfl⟩, ⟨Tryz.t13, by kernel_rfl, rfl, rfl, rfl⟩⟩
theorem te14 : TE.ok Tryz.prog 14 ⟨Tryz.t13.desc, Tryz.t14.size, Tryz.t14.bytes, Tryz.t14.zero.getD undef⟩ := ⟨Tryz.underlying14, Tryz.runUnderlying14, Tryz.sizeOf14, Tryz.zeroValue14, Tryz.isAgg14, fun w => ⟨_, Tryz.typeInfo14 w, rfl, rfl⟩, ⟨Tryz.t14, by kernel_rfl, rfl, rfl, rfl⟩⟩
theorem te15 : TE.ok Tryz.prog 15 ⟨Tryz.t15.desc, Tryz.t15.size, Tryz.t15.bytes, Tryz.t15.zero.getD undef⟩ := ⟨Tryz.underlying15, Tryz.runUnderlying15, Tryz.sizeOf15, Tryz.zeroValue15, Tryz.isAgg15, fun w => ⟨_, Tryz.typeInfo15 w, rfl, rfl⟩, ⟨Tryz.t15, by kernel_rfl, rfl, rfl, rfl⟩⟩
theorem te16 : TE.ok Tryz.prog 16 ⟨Tryz.t16.desc, Tryz.t16.size, Tryz.t16.bytes, Tryz.t16.zero.getD undef⟩ := ⟨Tryz.underlying16, Tryz.runUnderlying16, Tryz.sizeOf16, Tryz.zeroValue16, Tryz.isAgg16, fun w => ⟨_, Tryz.typeInfo16 w, rfl, rfl⟩, ⟨Tryz.t16, by kernel_rfl, rfl, rfl, rfl⟩⟩
theorem te17 : TE.ok Tryz.prog 17 ⟨Tryz.t17.desc, Tryz.t17.size, Tryz.t17.bytes, Tryz.t17.zero.getD undef⟩ := ⟨Tryz.underlying17, Tryz.runUnderlying17, Tryz.sizeOf17, Tryz.zeroValue17, Tryz.isAgg17, fun w => ⟨_, Tryz.typeInfo17 w, rfl, rfl⟩, ⟨Tryz.t17, by kernel_rfl, rfl, rfl, rfl⟩⟩
theorem te18 : TE.ok Tryz.prog 18 ⟨Tryz.t18.desc, Tryz.t18.size, Tryz.t18.bytes, Tryz.t18.zero.getD undef⟩ := ⟨Tryz.underlying18, Tryz.runUnderlying18, Tryz.sizeOf18, Tryz.zeroValue18, Tryz.isAgg18, fun w => ⟨_, Tryz.typeInfo18 w, rfl, rfl⟩, ⟨Tryz.t18, by kernel_rfl, rfl, rfl, rfl⟩⟩
theorem te19 : TE.ok Tryz.prog 19 ⟨Tryz.t18.desc, Tryz.t19.size, Tryz.t19.bytes, Tryz.t19.zero.getD undef⟩ := ⟨Tryz.underlying19, Tryz.runUnderlying19, Tryz.sizeOf19, Tryz.zeroValue19, Tryz.isAgg19, fun w => ⟨_, Tryz.typeInfo19 w, rfl, rfl⟩, ⟨Tryz.t19, by kernel_rfl, rfl, rfl, rfl⟩⟩
theorem te20 : TE.ok Tryz.prog 20 ⟨Tryz.t20.desc, Tryz.t20.size, Tryz.t20.bytes, Tryz.t20.zero.getD undef⟩ := ⟨Tryz.underlying20, Tryz.runUnderlying20, Tryz.sizeOf20, Tryz.zeroValue20, Tryz.isAgg20, fun w => ⟨_, Tryz.typeInfo20 w, rfl, rfl⟩, ⟨Tryz.t20, by kernel_rfl, rfl, rfl, rfl⟩⟩
theorem te21 : TE.ok Tryz.prog 21 ⟨Tryz.t21.desc, Tryz.t21.size, Tryz.t21.bytes, Tryz.t21.zero.getD undef⟩ := ⟨Tryz.underlying21, Tryz.runUnderlying21, Tryz.sizeOf21, Tryz.zeroValue21, Tryz.isAgg21, fun w => ⟨_, Tryz.typeInfo21 w, rfl, rfl⟩, ⟨Tryz.t21, by kernel_rfl, rfl, rfl, rfl⟩⟩
theorem te22 : TE.ok Tryz.prog 22 ⟨Tryz.t22.desc, Tryz.t22.size, Tryz.t22.bytes, Tryz.t22.zero.getD undef⟩ := ⟨Tryz.underlying22, Tryz.runUnderlying22, Tryz.sizeOf22, Tryz.zeroValue22, Tryz.isAgg22, fun w => ⟨_, Tryz.typeInfo22 w, rfl, rfl⟩, ⟨Tryz.t22, by kernel_rfl, rfl, rfl, rfl⟩⟩
theorem te23 : TE.ok Tryz.prog 23 ⟨Tryz.t23.desc, Tryz.t23.size, Tryz.t23.bytes, Tryz.t23.zero.getD undef⟩ := ⟨Tryz.underlying23, Tryz.runUnderlying23, Tryz.sizeOf23, Tryz.zeroValue23, Tryz.isAgg23, fun w => ⟨_, Tryz.typeInfo23 w, rfl, rfl⟩, ⟨Tryz.t23, by kernel_rfl, rfl, rfl, rfl⟩⟩
theorem te24 : TE.ok Tryz.prog 24 ⟨Tryz.t24.desc, Tryz.t24.size, Tryz.t24.bytes, Tryz.t24.zero.getD undef⟩ := ⟨Tryz.underlying24, Tryz.runUnderlying24, Tryz.sizeOf24, Tryz.zeroValue24, Tryz.isAgg24, fun w => ⟨_, Tryz.typeInfo24 w, rfl, rfl⟩, ⟨Tryz.t24, by kernel_rfl, rfl, rfl, rfl⟩⟩
theorem te25 : TE.ok Tryz.prog 25 ⟨Tryz.t25.desc, Tryz.t25.size, Tryz.t25.bytes, Tryz.t25.zero.getD undef⟩ := ⟨Tryz.underlying25, Tryz.runUnderlying25, Tryz.sizeOf25, Tryz.zeroValue25, Tryz.isAgg25, fun w => ⟨_, Tryz.typeInfo25 w, rfl, rfl⟩, ⟨Tryz.t25, by kernel_rfl, rfl, rfl, rfl⟩⟩
theorem te26 : TE.ok Tryz.prog 26 ⟨Tryz.t26.desc, Tryz.t26.size, Tryz.t26.bytes, Tryz.t26.zero.getD undef⟩ := ⟨Tryz.underlying26, Tryz.runUnderlying26, Tryz.sizeOf26, Tryz.zeroValue26, Tryz.isAgg26, fun w => ⟨_, Tryz.typeInfo26 w, rfl, rfl⟩, ⟨Tryz.t26, by kernel_rfl, rfl, rfl, rfl⟩⟩
theorem te27 : TE.ok Tryz.prog 27 ⟨Tryz.t27.desc, Tryz.t27.size, Tryz.t27.bytes, Tryz.t27.zero.getD undef⟩ := ⟨Tryz.underlying27, Tryz.runUnderlying27, Tryz.sizeOf27, Tryz.zeroValue27, Tryz.isAgg27, fun w => ⟨_, Tryz.typeInfo27 w, rfl, rfl⟩, ⟨Tryz.t27, by kernel_rfl, rfl, rfl, rfl⟩⟩
theorem te28 : TE.ok Tryz.prog 28 ⟨Tryz.t28.desc, Tryz.t28.size, Tryz.t28.bytes, Tryz.t28.zero.getD undef⟩ := ⟨Tryz.underlying28, Tryz.runUnderlying28, Tryz.sizeOf28, Tryz.zeroValue28, Tryz.isAgg28, fun w => ⟨_, Tryz.typeInfo28 w, rfl, rfl⟩, ⟨Tryz.t28, by kernel_rfl, rfl, rfl, rfl⟩⟩
theorem te29 : TE.ok Tryz.prog 29 ⟨Tryz.t29.desc, Tryz.t29.size, Tryz.t29.bytes, Tryz.t29.zero.getD undef⟩ := ⟨Tryz.underlying29, Tryz.runUnderlying29, Tryz.sizeOf29, Tryz.zeroValue29, Tryz.isAgg29, fun w => ⟨_, Tryz.typeInfo29 w, rfl, rfl⟩, ⟨Tryz.t29, by kernel_rfl, rfl, rfl, rfl⟩⟩
theorem te30 : TE.ok Tryz.prog 30 ⟨Tryz.t30.desc, Tryz.t30.size, Tryz.t30.bytes, Tryz.t30.zero.getD undef⟩ := ⟨Tryz.underlying30, Tryz.runUnderlying30, Tryz.sizeOf30, Tryz.zeroValue30, Tryz.isAgg30, fun w => ⟨_, Tryz.typeInfo30 w, rfl, rfl⟩, ⟨Tryz.t30, by kernel_rfl, rfl, rfl, rfl⟩⟩
theorem te31 : TE.ok Tryz.prog 31 ⟨Tryz.t31.desc, Tryz.t31.size, Tryz.t31.bytes, Tryz.t31.zero.getD undef⟩ := ⟨Tryz.underlying31, Tryz.runUnderlying31, Tryz.sizeOf31, Tryz.zeroValue31, Tryz.isAgg31, fun w => ⟨_, Tryz.typeInfo31 w, rfl, rfl⟩, ⟨Tryz.t31, by kernel_rfl, rfl, rfl, rfl⟩⟩
theorem te32 : TE.ok Tryz.prog 32 ⟨Tryz.t32.desc, Tryz.t32.size, Tryz.t32.bytes, Tryz.t32.zero.getD undef⟩ := ⟨Tryz.underlying32, Tryz.runUnderlying32, Tryz.sizeOf32, Tryz.zeroValue32, Tryz.isAgg32, fun w => ⟨_, Tryz.typeInfo32 w, rfl, rfl⟩, ⟨Tryz.t32, by kernel_rfl, rfl, rfl, rfl⟩⟩
theorem te33 : TE.ok Tryz.prog 33 ⟨Tryz.t32.desc, Tryz.t33.size, Tryz.t33.bytes, Tryz.t33.zero.getD undef⟩ := ⟨Tryz.underlying33, Tryz.runUnderlying33, Tryz.sizeOf33, Tryz.zeroValue33, Tryz.isAgg33, fun w => ⟨_, Tryz.typeInfo33 w, rfl, rfl⟩, ⟨Tryz.t33, by kernel_rfl, rfl, rfl, rfl⟩⟩
theorem te34 : TE.ok Tryz.prog 34 ⟨Tryz.t34.desc, Tryz.t34.size, Tryz.t34.bytes, Tryz.t34.zero.getD undef⟩ := ⟨Tryz.underlying34, Tryz.runUnderlying34, Tryz.sizeOf34, Tryz.zeroValue34, Tryz.isAgg34, fun w => ⟨_, Tryz.typeInfo34 w, rfl, rfl⟩, ⟨Tryz.t34, by kernel_rfl, rfl, rfl, rfl⟩⟩
theorem te35 : TE.ok Tryz.prog 35 ⟨Tryz.t35.desc, Tryz.t35.size, Tryz.t35.bytes, Tryz.t35.zero.getD undef⟩ := ⟨Tryz.underlying35, Tryz.runUnderlying35, Tryz.sizeOf35, Tryz.zeroValue35, Tryz.isAgg35, fun w => ⟨_, Tryz.typeInfo35 w, rfl, rfl⟩, ⟨Tryz.t35, by kernel_rfl, rfl, rfl, rfl⟩⟩
theorem te36 : TE.ok Tryz.prog 36 ⟨Tryz.t36.desc, Tryz.t36.size, Tryz.t36.bytes, Tryz.t36.zero.getD undef⟩ := ⟨Tryz.underlying36, Tryz.runUnderlying36, Tryz.sizeOf36, Tryz.zeroValue36, Tryz.isAgg36, fun w => ⟨_, Tryz.typeInfo36 w, rfl, rfl⟩, ⟨Tryz.t36, by kernel_rfl, rfl, rfl, rfl⟩⟩
theorem te37 : TE.ok Tryz.prog 37 ⟨Tryz.t37.desc, Tryz.t37.size, Tryz.t37.bytes, Tryz.t37.zero.getD undef⟩ := ⟨Tryz.underlying37, Tryz.runUnderlying37, Tryz.sizeOf37, Tryz.zeroValue37, Tryz.isAgg37, fun w => ⟨_, Tryz.typeInfo37 w, rfl, rfl⟩, ⟨Tryz.t37, by kernel_rfl, rfl, rfl, rfl⟩⟩
theorem te38 : TE.ok Tryz.prog 38 ⟨Tryz.t3.desc, Tryz.t38.size, Tryz.t38.bytes, Tryz.t38.zero.getD undef⟩ := ⟨Tryz.underlying38, Tryz.runUnderlying38, Tryz.sizeOf38, Tryz.zeroValue38, Tryz.isAgg38, fun w => ⟨_, Tryz.typeInfo38 w, rfl, rfl⟩, ⟨Tryz.t38, by kernel_rfl, rfl, rfl, rfl⟩⟩
theorem te39 : TE.ok Tryz.prog 39 ⟨Tryz.t39.desc, Tryz.t39.size, Tryz.t39.bytes, Tryz.t39.zero.getD undef⟩ := ⟨Tryz.underlying39, Tryz.runUnderlying39, Tryz.sizeOf39, Tryz.zeroValue39, Tryz.isAgg39, fun w => ⟨_, Tryz.typeInfo39 w, rfl, rfl⟩, ⟨Tryz.t39, by kernel_rfl, rfl, rfl, rfl⟩⟩
theorem te40 : TE.ok Tryz.prog 40 ⟨Tryz.t40.desc, Tryz.t40.size, Tryz.t40.bytes, Tryz.t40.zero.getD undef⟩ := ⟨Tryz.underlying40, Tryz.runUnderlying40, Tryz.sizeOf40, Tryz.zeroValue40, Tryz.isAgg40, fun w => ⟨_, Tryz.typeInfo40 w, rfl, rfl⟩, ⟨Tryz.t40, by kernel_rfl, rfl, rfl, rfl⟩⟩
theorem te41 : TE.ok Tryz.prog 41 ⟨Tryz.t41.desc, Tryz.t41.size, Tryz.t41.bytes, Tryz.t41.zero.getD undef⟩ := ⟨Tryz.underlying41, Tryz.runUnderlying41, Tryz.sizeOf41, Tryz.zeroValue41, Tryz.isAgg41, fun w => ⟨_, Tryz.typeInfo41 w, rfl, rfl⟩, ⟨Tryz.t41, by kernel_rfl, rfl, rfl, rfl⟩⟩
theorem te42 : TE.ok Tryz.prog 42 ⟨Tryz.t42.desc, Tryz.t42.size, Tryz.t42.bytes, Tryz.t42.zero.getD undef⟩ := ⟨Tryz.underlying42, Tryz.runUnderlying42, Tryz.sizeOf42, Tryz.zeroValue42, Tryz.isAgg42, fun w => ⟨_, Tryz.typeInfo42 w, rfl, rfl⟩, ⟨Tryz.t42, by kernel_rfl, rfl, rfl, rfl⟩⟩
theorem te43 : TE.ok Tryz.prog 43 ⟨Tryz.t42.desc, Tryz.t43.size, Tryz.t43.bytes, Tryz.t43.zero.getD undef⟩ := ⟨Tryz.underlying43, Tryz.runUnderlying43, Tryz.sizeOf43, Tryz.zeroValue43, Tryz.isAgg43, fun w => ⟨_, Tryz.typeInfo43 w, rfl, rfl⟩, ⟨Tryz.t43, by kernel_rfl, rfl, rfl, rfl⟩⟩
theorem te44 : TE.ok Tryz.prog 44 ⟨Tryz.t44.desc, Tryz.t44.size, Tryz.t44.bytes, Tryz.t44.zero.getD undef⟩ := ⟨Tryz.underlying44, Tryz.runUnderlying44, Tryz.sizeOf44, Tryz.zeroValue44, Tryz.isAgg44, fun w => ⟨_, Tryz.typeInfo44 w, rfl, rfl⟩, ⟨Tryz.t44, by kernel_rfl, rfl, rfl, rfl⟩⟩
theorem te45 : TE.ok Tryz.prog 45 ⟨Tryz.t44.desc, Tryz.t45.size, Tryz.t45.bytes, Tryz.t45.zero.getD undef⟩ := ⟨Tryz.underlying45, Tryz.runUnderlying45, Tryz.sizeOf45, Tryz.zeroValue45, Tryz.isAgg45, fun w => ⟨_, Tryz.typeInfo45 w, rfl, rfl⟩, ⟨Tryz.t45, by kernel_rfl, rfl, rfl, rfl⟩⟩
theorem te46 : TE.ok Tryz.prog 46 ⟨Tryz.t46.desc, Tryz.t46.size, Tryz.t46.bytes, Tryz.t46.zero.getD undef⟩ := ⟨Tryz.underlying46, Tryz.runUnderlying46, Tryz.sizeOf46, Tryz.zeroValue46, Tryz.isAgg46, fun w => ⟨_, Tryz.typeInfo46 w, rfl, rfl⟩, ⟨Tryz.t46, by kernel_rfl, rfl, rfl, rfl⟩⟩
theorem te47 : TE.ok Tryz.prog 47 ⟨Tryz.t47.desc, Tryz.t47.size, Tryz.t47.bytes, Tryz.t47.zero.getD undef⟩ := ⟨Tryz.underlying47, Tryz.runUnderlying47, Tryz.sizeOf47, Tryz.zeroValue47, Tryz.isAgg47, fun w => ⟨_, Tryz.typeInfo47 w, rfl, rfl⟩, ⟨Tryz.t47, by kernel_rfl, rfl, rfl, rfl⟩⟩
theorem te48 : TE.ok Tryz.prog 48 ⟨Tryz.t48.desc, Tryz.t48.size, Tryz.t48.bytes, Tryz.t48.zero.getD undef⟩ := ⟨Tryz.underlying48, Tryz.runUnderlying48, Tryz.sizeOf48, Tryz.zeroValue48, Tryz.isAgg48, fun w => ⟨_, Tryz.typeInfo48 w, rfl, rfl⟩, ⟨Tryz.t48, by kernel_rfl, rfl, rfl, rfl⟩⟩
theorem te49 : TE.ok Tryz.prog 49 ⟨Tryz.t48.desc, Tryz.t49.size, Tryz.t49.bytes, Tryz.t49.zero.getD undef⟩ := ⟨Tryz.underlying49, Tryz.runUnderlying49, Tryz.sizeOf49, Tryz.zeroValue49, Tryz.isAgg49, fun w => ⟨_, Tryz.typeInfo49 w, rfl, rfl⟩, ⟨Tryz.t49, by kernel_rfl, rfl, rfl, rfl⟩⟩
theorem te50 : TE.ok Tryz.prog 50 ⟨Tryz.t50.desc, Tryz.t50.size, Tryz.t50.bytes, Tryz.t50.zero.getD undef⟩ := ⟨Tryz.underlying50, Tryz.runUnderlying50, Tryz.sizeOf50, Tryz.zeroValue50, Tryz.isAgg50, fun w => ⟨_, Tryz.typeInfo50 w, rfl, rfl⟩, ⟨Tryz.t50, by kernel_rfl, rfl, rfl, rfl⟩⟩
theorem te51 : TE.ok Tryz.prog 51 ⟨Tryz.t51.desc, Tryz.t51.size, Tryz.t51.bytes, Tryz.t51.zero.getD undef⟩ := ⟨Tryz.underlying51, Tryz.runUnderlying51, Tryz.sizeOf51, Tryz.zeroValue51, Tryz.isAgg51, fun w => ⟨_, Tryz.typeInfo51 w, rfl, rfl⟩, ⟨Tryz.t51, by kernel_rfl, rfl, rfl, rfl⟩⟩
theorem te52 : TE.ok Tryz.prog 52 ⟨Tryz.t52.desc, Tryz.t52.size, Tryz.t52.bytes, Tryz.t52.zero.getD undef⟩ := ⟨Tryz.underlying52, Tryz.runUnderlying52, Tryz.sizeOf52, Tryz.zeroValue52, Tryz.isAgg52, fun w => ⟨_, Tryz.typeInfo52 w, rfl, rfl⟩, ⟨Tryz.t52, by kernel_rfl, rfl, rfl, rfl⟩⟩
theorem te53 : TE.ok Tryz.prog 53 ⟨Tryz.t53.desc, Tryz.t53.size, Tryz.t53.bytes, Tryz.t53.zero.getD undef⟩ := ⟨Tryz.underlying53, Tryz.runUnderlying53, Tryz.sizeOf53, Tryz.zeroValue53, Tryz.isAgg53, fun w => ⟨_, Tryz.typeInfo53 w, rfl, rfl⟩, ⟨Tryz.t53, by kernel_rfl, rfl, rfl, rfl⟩⟩
theorem te54 : TE.ok Tryz.prog 54 ⟨Tryz.t53.desc, Tryz.t54.size, Tryz.t54.bytes, Tryz.t54.zero.getD undef⟩ := ⟨Tryz.underlying54, Tryz.runUnderlying54, Tryz.sizeOf54, Tryz.zeroValue54, Tryz.isAgg54, fun w => ⟨_, Tryz.typeInfo54 w, rfl, rfl⟩, ⟨Tryz.t54, by kernel_rfl, rfl, rfl, rfl⟩⟩
theorem te55 : TE.ok Tryz.prog 55 ⟨Tryz.t55.desc, Tryz.t55.size, Tryz.t55.bytes, Tryz.t55.zero.getD undef⟩ := ⟨Tryz.underlying55, Tryz.runUnderlying55, Tryz.sizeOf55, Tryz.zeroValue55, Tryz.isAgg55, fun w => ⟨_, Tryz.typeInfo55 w, rfl, rfl⟩, ⟨Tryz.t55, by kernel_rfl, rfl, rfl, rfl⟩⟩
theorem te56 : TE.ok Tryz.prog 56 ⟨Tryz.t56.desc, Tryz.t56.size, Tryz.t56.bytes, Tryz.t56.zero.getD undef⟩ := ⟨Tryz.underlying56, Tryz.runUnderlying56, Tryz.sizeOf56, Tryz.zeroValue56, Tryz.isAgg56, fun w => ⟨_, Tryz.typeInfo56 w, rfl, rfl⟩, ⟨Tryz.t56, by kernel_rfl, rfl, rfl, rfl⟩⟩
theorem te57 : TE.ok Tryz.prog 57 ⟨Tryz.t56.desc, Tryz.t57.size, Tryz.t57.bytes, Tryz.t57.zero.getD undef⟩ := ⟨Tryz.underlying57, Tryz.runUnderlying57, Tryz.sizeOf57, Tryz.zeroValue57, Tryz.isAgg57, fun w => ⟨_, Tryz.typeInfo57 w, rfl, rfl⟩, ⟨Tryz.t57, by kernel_rfl, rfl, rfl, rfl⟩⟩
theorem te58 : TE.ok Tryz.prog 58 ⟨Tryz.t58.desc, Tryz.t58.size, Tryz.t58.bytes, Tryz.t58.zero.getD undef⟩ := ⟨Tryz.underlying58, Tryz.runUnderlying58, Tryz.sizeOf58, Tryz.zeroValue58, Tryz.isAgg58, fun w => ⟨_, Tryz.typeInfo58 w, rfl, rfl⟩, ⟨Tryz.t58, by kernel_rfl, rfl, rfl, rfl⟩⟩
theorem te59 : TE.ok Tryz.prog 59 ⟨Tryz.t59.desc, Tryz.t59.size, Tryz.t59.bytes, Tryz.t59.zero.getD undef⟩ := ⟨Tryz.underlying59, Tryz.runUnderlying59, Tryz.sizeOf59, Tryz.zeroValue59, Tryz.isAgg59, fun w => ⟨_, Tryz.typeInfo59 w, rfl, rfl⟩, ⟨Tryz.t59, by kernel_rfl, rfl, rfl, rfl⟩⟩
theorem te60 : TE.ok Tryz.prog 60 ⟨Tryz.t60.desc, Tryz.t60.size, Tryz.t60.bytes, Tryz.t60.zero.getD undef⟩ := ⟨Tryz.underlying60, Tryz.runUnderlying60, Tryz.sizeOf60, Tryz.zeroValue60, Tryz.isAgg60, fun w => ⟨_, Tryz.typeInfo60 w, rfl, rfl⟩, ⟨Tryz.t60, by kernel_rfl, rfl, rfl, rfl⟩⟩
theorem te61 : TE.ok Tryz.prog 61 ⟨Tryz.t61.desc, Tryz.t61.size, Tryz.t61.bytes, Tryz.t61.zero.getD undef⟩ := ⟨Tryz.underlying61, Tryz.runUnderlying61, Tryz.sizeOf61, Tryz.zeroValue61, Tryz.isAgg61, fun w => ⟨_, Tryz.typeInfo61 w, rfl, rfl⟩, ⟨Tryz.t61, by kernel_rfl, rfl, rfl, rfl⟩⟩
theorem te62 : TE.ok Tryz.prog 62 ⟨Tryz.t62.desc, Tryz.t62.size, Tryz.t62.bytes, Tryz.t62.zero.getD undef⟩ := ⟨Tryz.underlying62, Tryz.runUnderlying62, Tryz.sizeOf62, Tryz.zeroValue62, Tryz.isAgg62, fun w => ⟨_, Tryz.typeInfo62 w, rfl, rfl⟩, ⟨Tryz.t62, by kernel_rfl, rfl, rfl, rfl⟩⟩
theorem te63 : TE.ok Tryz.prog 63 ⟨Tryz.t62.desc, Tryz.t63.size, Tryz.t63.bytes, Tryz.t63.zero.getD undef⟩ := ⟨Tryz.underlying63, Tryz.runUnderlying63, Tryz.sizeOf63, Tryz.zeroValue63, Tryz.isAgg63, fun w => ⟨_, Tryz.typeInfo63 w, rfl, rfl⟩, ⟨Tryz.t63, by kernel_rfl, rfl, rfl, rfl⟩⟩
theorem te64 : TE.ok Tryz.prog 64 ⟨Tryz.t64.desc, Tryz.t64.size, Tryz.t64.bytes, Tryz.t64.zero.getD undef⟩ := ⟨Tryz.underlying64, Tryz.runUnderlying64, Tryz.sizeOf64, Tryz.zeroValue64, Tryz.isAgg64, fun w => ⟨_, Tryz.typeInfo64 w, rfl, rfl⟩, ⟨Tryz.t64, by kernel_rfl, rfl, rfl, rfl⟩⟩
theorem te65 : TE.ok Tryz.prog 65 ⟨Tryz.t64.desc, Tryz.t65.size, Tryz.t65.bytes, Tryz.t65.zero.getD undef⟩ := ⟨Tryz.underlying65, Tryz.runUnderlying65, Tryz.sizeOf65, Tryz.zeroValue65, Tryz.isAgg65, fun w => ⟨_, Tryz.typeInfo65 w, rfl, rfl⟩, ⟨Tryz.t65, by kernel_rfl, rfl, rfl, rfl⟩⟩
theorem te66 : TE.ok Tryz.prog 66 ⟨Tryz.t66.desc, Tryz.t66.size, Tryz.t66.bytes, Tryz.t66.zero.getD undef⟩ := ⟨Tryz.underlying66, Tryz.runUnderlying66, Tryz.sizeOf66, Tryz.zeroValue66, Tryz.isAgg66, fun w => ⟨_, Tryz.typeInfo66 w, rfl, rfl⟩, ⟨Tryz.t66, by kernel_rfl, rfl, rfl, rfl⟩⟩
theorem te67 : TE.ok Tryz.prog 67 ⟨Tryz.t67.desc, Tryz.t67.size, Tryz.t67.bytes, Tryz.t67.zero.getD undef⟩ := ⟨Tryz.underlying67, Tryz.runUnderlying67, Tryz.sizeOf67, Tryz.zeroValue67, Tryz.isAgg67, fun w => ⟨_, Tryz.typeInfo67 w, rfl, rfl⟩, ⟨Tryz.t67, by kernel_rfl, rfl, rfl, rfl⟩⟩
theorem te68 : TE.ok Tryz.prog 68 ⟨Tryz.t68.desc, Tryz.t68.size, Tryz.t68.bytes, Tryz.t68.zero.getD undef⟩ := ⟨Tryz.underlying68, Tryz.runUnderlying68, Tryz.sizeOf68, Tryz.zeroValue68, Tryz.isAgg68, fun w => ⟨_, Tryz.typeInfo68 w, rfl, rfl⟩, ⟨Tryz.t68, by kernel_rfl, rfl, rfl, rfl⟩⟩
theorem te69 : TE.ok Tryz.prog 69 ⟨Tryz.t69.desc, Tryz.t69.size, Tryz.t69.bytes, Tryz.t69.zero.getD undef⟩ := ⟨Tryz.underlying69, Tryz.runUnderlying69, Tryz.sizeOf69, Tryz.zeroValue69, Tryz.isAgg69, fun w => ⟨_, Tryz.typeInfo69 w, rfl, rfl⟩, ⟨Tryz.t69, by kernel_rfl, rfl, rfl, rfl⟩⟩
theorem te70 : TE.ok Tryz.prog 70 ⟨Tryz.t70.desc, Tryz.t70.size, Tryz.t70.bytes, Tryz.t70.zero.getD undef⟩ := ⟨Tryz.underlying70, Tryz.runUnderlying70, Tryz.sizeOf70, Tryz.zeroValue70, Tryz.isAgg70, fun w => ⟨_, Tryz.typeInfo70 w, rfl, rfl⟩, ⟨Tryz.t70, by kernel_rfl, rfl, rfl, rfl⟩⟩
theorem te71 : TE.ok Tryz.prog 71 ⟨Tryz.t71.desc, Tryz.t71.size, Tryz.t71.bytes, Tryz.t71.zero.getD undef⟩ := ⟨Tryz.underlying71, Tryz.runUnderlying71, Tryz.sizeOf71, Tryz.zeroValue71, Tryz.isAgg71, fun w => ⟨_, Tryz.typeInfo71 w, rfl, rfl⟩, ⟨Tryz.t71, by kernel_rfl, rfl, rfl, rfl⟩⟩
theorem te72 : TE.ok Tryz.prog 72 ⟨Tryz.t72.desc, Tryz.t72.size, Tryz.t72.bytes, Tryz.t72.zero.getD undef⟩ := ⟨Tryz.underlying72, Tryz.runUnderlying72, Tryz.sizeOf72, Tryz.zeroValue72, Tryz.isAgg72, fun w => ⟨_, Tryz.typeInfo72 w, rfl, rfl⟩, ⟨Tryz.t72, by kernel_rfl, rfl, rfl, rfl⟩⟩
theorem te73 : TE.ok Tryz.prog 73 ⟨Tryz.t72.desc, Tryz.t73.size, Tryz.t73.bytes, Tryz.t73.zero.getD undef⟩ := ⟨Tryz.underlying73, Tryz.runUnderlying73, Tryz.sizeOf73, Tryz.zeroValue73, Tryz.isAgg73, fun w => ⟨_, Tryz.typeInfo73 w, rfl, rfl⟩, ⟨Tryz.t73, by kernel_rfl, rfl, rfl, rfl⟩⟩
theorem te74 : TE.ok Tryz.prog 74 ⟨Tryz.t74.desc, Tryz.t74.size, Tryz.t74.bytes, Tryz.t74.zero.getD undef⟩ := ⟨Tryz.underlying74, Tryz.runUnderlying74, Tryz.sizeOf74, Tryz.zeroValue74, Tryz.isAgg74, fun w => ⟨_, Tryz.typeInfo74 w, rfl, rfl⟩, ⟨Tryz.t74, by kernel_rfl, rfl, rfl, rfl⟩⟩
theorem te75 : TE.ok Tryz.prog 75 ⟨Tryz.t75.desc, Tryz.t75.size, Tryz.t75.bytes, Tryz.t75.zero.getD undef⟩ := ⟨Tryz.underlying75, Tryz.runUnderlying75, Tryz.sizeOf75, Tryz.zeroValue75, Tryz.isAgg75, fun w => ⟨_, Tryz.typeInfo75 w, rfl, rfl⟩, ⟨Tryz.t75, by kernel_rfl, rfl, rfl, rfl⟩⟩
theorem te76 : TE.ok Tryz.prog 76 ⟨Tryz.t76.desc, Tryz.t76.size, Tryz.t76.bytes, Tryz.t76.zero.getD undef⟩ := ⟨Tryz.underlying76, Tryz.runUnderlying76, Tryz.sizeOf76, Tryz.zeroValue76, Tryz.isAgg76, fun w => ⟨_, Tryz.typeInfo76 w, rfl, rfl⟩, ⟨Tryz.t76, by kernel_rfl, rfl, rfl, rfl⟩⟩
theorem te77 : TE.ok Tryz.prog 77 ⟨Tryz.t77.desc, Tryz.t77.size, Tryz.t77.bytes, Tryz.t77.zero.getD undef⟩ := ⟨Tryz.underlying77, Tryz.runUnderlying77, Tryz.sizeOf77, Tryz.zeroValue77, Tryz.isAgg77, fun w => ⟨_, Tryz.typeInfo77 w, rfl, rfl⟩, ⟨Tryz.t77, by kernel_rfl, rfl, rfl, rfl⟩⟩
theorem te78 : TE.ok Tryz.prog 78 ⟨Tryz.t78.desc, Tryz.t78.size, Tryz.t78.bytes, Tryz.t78.zero.getD undef⟩ := ⟨Tryz.underlying78, Tryz.runUnderlying78, Tryz.sizeOf78, Tryz.zeroValue78, Tryz.isAgg78, fun w => ⟨_, Tryz.typeInfo78 w, rfl, rfl⟩, ⟨Tryz.t78, by kernel_rfl, rfl, rfl, rfl⟩⟩
theorem te79 : TE.ok Tryz.prog 79 ⟨Tryz.t79.desc, Tryz.t79.size, Tryz.t79.bytes, Tryz.t79.zero.getD undef⟩ := ⟨Tryz.underlying79, Tryz.runUnderlying79, Tryz.sizeOf79, Tryz.zeroValue79, Tryz.isAgg79, fun w => ⟨_, Tryz.typeInfo79 w, rfl, rfl⟩, ⟨Tryz.t79, by kernel_rfl, rfl, rfl, rfl⟩⟩
theorem te80 : TE.ok Tryz.prog 80 ⟨Tryz.t79.desc, Tryz.t80.size, Tryz.t80.bytes, Tryz.t80.zero.getD undef⟩ := ⟨Tryz.underlying80, Tryz.runUnderlying80, Tryz.sizeOf80, Tryz.zeroValue80, Tryz.isAgg80, fun w => ⟨_, Tryz.typeInfo80 w, rfl, rfl⟩, ⟨Tryz.t80, by kernel_rfl, rfl, rfl, rfl⟩⟩
theorem te81 : TE.ok Tryz.prog 81 ⟨Tryz.t81.desc, Tryz.t81.size, Tryz.t81.bytes, Tryz.t81.zero.getD undef⟩ := ⟨Tryz.underlying81, Tryz.runUnderlying81, Tryz.sizeOf81, Tryz.zeroValue81, Tryz.isAgg81, fun w => ⟨_, Tryz.typeInfo81 w, rfl, rfl⟩, ⟨Tryz.t81, by kernel_rfl, rfl, rfl, rfl⟩⟩
theorem te82 : TE.ok Tryz.prog 82 ⟨Tryz.t79.desc, Tryz.t82.size, Tryz.t82.bytes, Tryz.t82.zero.getD undef⟩ := ⟨Tryz.underlying82, Tryz.runUnderlying82, Tryz.sizeOf82, Tryz.zeroValue82, Tryz.isAgg82, fun w => ⟨_, Tryz.typeInfo82 w, rfl, rfl⟩, ⟨Tryz.t82, by kernel_rfl, rfl, rfl, rfl⟩⟩
theorem te83 : TE.ok Tryz.prog 83 ⟨Tryz.t83.desc, Tryz.t83.size, Tryz.t83.bytes, Tryz.t83.zero.getD undef⟩ := ⟨Tryz.underlying83, Tryz.runUnderlying83, Tryz.sizeOf83, Tryz.zeroValue83, Tryz.isAgg83, fun w => ⟨_, Tryz.typeInfo83 w, rfl, rfl⟩, ⟨Tryz.t83, by kernel_rfl, rfl, rfl, rfl⟩⟩
theorem te84 : TE.ok Tryz.prog 84 ⟨Tryz.t84.desc, Tryz.t84.size, Tryz.t84.bytes, Tryz.t84.zero.getD undef⟩ := ⟨Tryz.underlying84, Tryz.runUnderlying84, Tryz.sizeOf84, Tryz.zeroValue84, Tryz.isAgg84, fun w => ⟨_, Tryz.typeInfo84 w, rfl, rfl⟩, ⟨Tryz.t84, by kernel_rfl, rfl, rfl, rfl⟩⟩
theorem te85 : TE.ok Tryz.prog 85 ⟨Tryz.t84.desc, Tryz.t85.size, Tryz.t85.bytes, Tryz.t85.zero.getD undef⟩ := ⟨Tryz.underlying85, Tryz.runUnderlying85, Tryz.sizeOf85, Tryz.zeroValue85, Tryz.isAgg85, fun w => ⟨_, Tryz.typeInfo85 w, rfl, rfl⟩, ⟨Tryz.t85, by kernel_rfl, rfl, rfl, rfl⟩⟩
theorem te86 : TE.ok Tryz.prog 86 ⟨Tryz.t86.desc, Tryz.t86.size, Tryz.t86.bytes, Tryz.t86.zero.getD undef⟩ := ⟨Tryz.underlying86, Tryz.runUnderlying86, Tryz.sizeOf86, Tryz.zeroValue86, Tryz.isAgg86, fun w => ⟨_, Tryz.typeInfo86 w, rfl, rfl⟩, ⟨Tryz.t86, by kernel_rfl, rfl, rfl, rfl⟩⟩
theorem te87 : TE.ok Tryz.prog 87 ⟨Tryz.t87.desc, Tryz.t87.size, Tryz.t87.bytes, Tryz.t87.zero.getD undef⟩ := ⟨Tryz.underlying87, Tryz.runUnderlying87, Tryz.sizeOf87, Tryz.zeroValue87, Tryz.isAgg87, fun w => ⟨_, Tryz.typeInfo87 w, rfl, rfl⟩, ⟨Tryz.t87, by kernel_rfl, rfl, rfl, rfl⟩⟩
theorem te88 : TE.ok Tryz.prog 88 ⟨Tryz.t87.desc, Tryz.t88.size, Tryz.t88.bytes, Tryz.t88.zero.getD undef⟩ := ⟨Tryz.underlying88, Tryz.runUnderlying88, Tryz.sizeOf88, Tryz.zeroValue88, Tryz.isAgg88, fun w => ⟨_, Tryz.typeInfo88 w, rfl, rfl⟩, ⟨Tryz.t88, by kernel_rfl, rfl, rfl, rfl⟩⟩
theorem te89 : TE.ok Tryz.prog 89 ⟨Tryz.t89.desc, Tryz.t89.size, Tryz.t89.bytes, Tryz.t89.zero.getD undef⟩ := ⟨Tryz.underlying89, Tryz.runUnderlying89, Tryz.sizeOf89, Tryz.zeroValue89, Tryz.isAgg89, fun w => ⟨_, Tryz.typeInfo89 w, rfl, rfl⟩, ⟨Tryz.t89, by kernel_rfl, rfl, rfl, rfl⟩⟩
theorem te90 : TE.ok Tryz.prog 90 ⟨Tryz.t89.desc, Tryz.t90.size, Tryz.t90.bytes, Tryz.t90.zero.getD undef⟩ := ⟨Tryz.underlying90, Tryz.runUnderlying90, Tryz.sizeOf90, Tryz.zeroValue90, Tryz.isAgg90, fun w => ⟨_, Tryz.typeInfo90 w, rfl, rfl⟩, ⟨Tryz.t90, by kernel_rfl, rfl, rfl, rfl⟩⟩
theorem te91 : TE.ok Tryz.prog 91 ⟨Tryz.t91.desc, Tryz.t91.size, Tryz.t91.bytes, Tryz.t91.zero.getD undef⟩ := ⟨Tryz.underlying91, Tryz.runUnderlying91, Tryz.sizeOf91, Tryz.zeroValue91, Tryz.isAgg91, fun w => ⟨_, Tryz.typeInfo91 w, rfl, rfl⟩, ⟨Tryz.t91, by kernel_rfl, rfl, rfl, rfl⟩⟩
theorem te92 : TE.ok Tryz.prog 92 ⟨Tryz.t91.desc, Tryz.t92.size, Tryz.t92.bytes, Tryz.t92.zero.getD undef⟩ := ⟨Tryz.underlying92, Tryz.runUnderlying92, Tryz.sizeOf92, Tryz.zeroValue92, Tryz.isAgg92, fun w => ⟨_, Tryz.typeInfo92 w, rfl, rfl⟩, ⟨Tryz.t92, by kernel_rfl, rfl, rfl, rfl⟩⟩
theorem te93 : TE.ok Tryz.prog 93 ⟨Tryz.t93.desc, Tryz.t93.size, Tryz.t93.bytes, Tryz.t93.zero.getD undef⟩ := ⟨Tryz.underlying93, Tryz.runUnderlying93, Tryz.sizeOf93, Tryz.zeroValue93, Tryz.isAgg93, fun w => ⟨_, Tryz.typeInfo93 w, rfl, rfl⟩, ⟨Tryz.t93, by kernel_rfl, rfl, rfl, rfl⟩⟩
theorem te94 : TE.ok Tryz.prog 94 ⟨Tryz.t94.desc, Tryz.t94.size, Tryz.t94.bytes, Tryz.t94.zero.getD undef⟩ := ⟨Tryz.underlying94, Tryz.runUnderlying94, Tryz.sizeOf94, Tryz.zeroValue94, Tryz.isAgg94, fun w => ⟨_, Tryz.typeInfo94 w, rfl, rfl⟩, ⟨Tryz.t94, by kernel_rfl, rfl, rfl, rfl⟩⟩
theorem te95 : TE.ok Tryz.prog 95 ⟨Tryz.t94.desc, Tryz.t95.size, Tryz.t95.bytes, Tryz.t95.zero.getD undef⟩ := ⟨Tryz.underlying95, Tryz.runUnderlying95, Tryz.sizeOf95, Tryz.zeroValue95, Tryz.isAgg95, fun w => ⟨_, Tryz.typeInfo95 w, rfl, rfl⟩, ⟨Tryz.t95, by kernel_rfl, rfl, rfl, rfl⟩⟩
theorem te96 : TE.ok Tryz.prog 96 ⟨Tryz.t96.desc, Tryz.t96.size, Tryz.t96.bytes, Tryz.t96.zero.getD undef⟩ := ⟨Tryz.underlying96, Tryz.runUnderlying96, Tryz.sizeOf96, Tryz.zeroValue96, Tryz.isAgg96, fun w => ⟨_, Tryz.typeInfo96 w, rfl, rfl⟩, ⟨Tryz.t96, by kernel_rfl, rfl, rfl, rfl⟩⟩
theorem te97 : TE.ok Tryz.prog 97 ⟨Tryz.t96.desc, Tryz.t97.size, Tryz.t97.bytes, Tryz.t97.zero.getD undef⟩ := ⟨Tryz.underlying97, Tryz.runUnderlying97, Tryz.sizeOf97, Tryz.zeroValue97, Tryz.isAgg97, fun w => ⟨_, Tryz.typeInfo97 w, rfl, rfl⟩, ⟨Tryz.t97, by kernel_rfl, rfl, rfl, rfl⟩⟩
theorem te98 : TE.ok Tryz.prog 98 ⟨Tryz.t98.desc, Tryz.t98.size, Tryz.t98.bytes, Tryz.t98.zero.getD undef⟩ := ⟨Tryz.underlying98, Tryz.runUnderlying98, Tryz.sizeOf98, Tryz.zeroValue98, Tryz.isAgg98, fun w => ⟨_, Tryz.typeInfo98 w, rfl, rfl⟩, ⟨Tryz.t98, by kernel_rfl, rfl, rfl, rfl⟩⟩
theorem te99 : TE.ok Tryz.prog 99 ⟨Tryz.t99.desc, Tryz.t99.size, Tryz.t99.bytes, Tryz.t99.zero.getD undef⟩ := ⟨Tryz.underlying99, Tryz.runUnderlying99, Tryz.sizeOf99, Tryz.zeroValue99, Tryz.isAgg99, fun w => ⟨_, Tryz.typeInfo99 w, rfl, rfl⟩, ⟨Tryz.t99, by kernel_rfl, rfl, rfl, rfl⟩⟩
theorem te100 : TE.ok Tryz.prog 100 ⟨Tryz.t100.desc, Tryz.t100.size, Tryz.t100.bytes, Tryz.t100.zero.getD undef⟩ := ⟨Tryz.underlying100, Tryz.runUnderlying100, Tryz.sizeOf100, Tryz.zeroValue100, Tryz.isAgg100, fun w => ⟨_, Tryz.typeInfo100 w, rfl, rfl⟩, ⟨Tryz.t100, by kernel_rfl, rfl, rfl, rfl⟩⟩
theorem te101 : TE.ok Tryz.prog 101 ⟨Tryz.t101.desc, Tryz.t101.size, Tryz.t101.bytes, Tryz.t101.zero.getD undef⟩ := ⟨Tryz.underlying101, Tryz.runUnderlying101, Tryz.sizeOf101, Tryz.zeroValue101, Tryz.isAgg101, fun w => ⟨_, Tryz.typeInfo101 w, rfl, rfl⟩, ⟨Tryz.t101, by kernel_rfl, rfl, rfl, rfl⟩⟩
theorem te102 : TE.ok Tryz.prog 102 ⟨Tryz.t102.desc, Tryz.t102.size, Tryz.t102.bytes, Tryz.t102.zero.getD undef⟩ := ⟨Tryz.underlying102, Tryz.runUnderlying102, Tryz.sizeOf102, Tryz.zeroValue102, Tryz.isAgg102, fun w => ⟨_, Tryz.typeInfo102 w, rfl, rfl⟩, ⟨Tryz.t102, by kernel_rfl, rfl, rfl, rfl⟩⟩
theorem te103 : TE.ok Tryz.prog 103 ⟨Tryz.t103.desc, Tryz.t103.size, Tryz.t103.bytes, Tryz.t103.zero.getD undef⟩ := ⟨Tryz.underlying103, Tryz.runUnderlying103, Tryz.sizeOf103, Tryz.zeroValue103, Tryz.isAgg103, fun w => ⟨_, Tryz.typeInfo103 w, rfl, rfl⟩, ⟨Tryz.t103, by kernel_rfl, rfl, rfl, rfl⟩⟩
theorem te104 : TE.ok Tryz.prog 104 ⟨Tryz.t104.desc, Tryz.t104.size, Tryz.t104.bytes, Tryz.t104.zero.getD undef⟩ := ⟨Tryz.underlying104, Tryz.runUnderlying104, Tryz.sizeOf104, Tryz.zeroValue104, Tryz.isAgg104, fun w => ⟨_, Tryz.typeInfo104 w, rfl, rfl⟩, ⟨Tryz.t104, by kernel_rfl, rfl, rfl, rfl⟩⟩
theorem te105 : TE.ok Tryz.prog 105 ⟨Tryz.t105.desc, Tryz.t105.size, Tryz.t105.bytes, Tryz.t105.zero.getD undef⟩ := ⟨Tryz.underlying105, Tryz.runUnderlying105, Tryz.sizeOf105, Tryz.zeroValue105, Tryz.isAgg105, fun w => ⟨_, Tryz.typeInfo105 w, rfl, rfl⟩, ⟨Tryz.t105, by kernel_rfl, rfl, rfl, rfl⟩⟩
theorem te106 : TE.ok Tryz.prog 106 ⟨Tryz.t106.desc, Tryz.t106.size, Tryz.t106.bytes, Tryz.t106.zero.getD undef⟩ := ⟨Tryz.underlying106, Tryz.runUnderlying106, Tryz.sizeOf106, Tryz.zeroValue106, Tryz.isAgg106, fun w => ⟨_, Tryz.typeInfo106 w, rfl, rfl⟩, ⟨Tryz.t106, by kernel_rfl, rfl, rfl, rfl⟩⟩
theorem te107 : TE.ok Tryz.prog 107 ⟨Tryz.t107.desc, Tryz.t107.size, Tryz.t107.bytes, Tryz.t107.zero.getD undef⟩ := ⟨Tryz.underlying107, Tryz.runUnderlying107, Tryz.sizeOf107, Tryz.zeroValue107, Tryz.isAgg107, fun w => ⟨_, Tryz.typeInfo107 w, rfl, rfl⟩, ⟨Tryz.t107, by kernel_rfl, rfl, rfl, rfl⟩⟩
theorem te108 : TE.ok Tryz.prog 108 ⟨Tryz.t108.desc, Tryz.t108.size, Tryz.t108.bytes, Tryz.t108.zero.getD undef⟩ := ⟨Tryz.underlying108, Tryz.runUnderlying108, Tryz.sizeOf108, Tryz.zeroValue108, Tryz.isAgg108, fun w => ⟨_, Tryz.typeInfo108 w, rfl, rfl⟩, ⟨Tryz.t108, by kernel_rfl, rfl, rfl, rfl⟩⟩
theorem te109 : TE.ok Tryz.prog 109 ⟨Tryz.t109.desc, Tryz.t109.size, Tryz.t109.bytes, Tryz.t109.zero.getD undef⟩ := ⟨Tryz.underlying109, Tryz.runUnderlying109, Tryz.sizeOf109, Tryz.zeroValue109, Tryz.isAgg109, fun w => ⟨_, Tryz.typeInfo109 w, rfl, rfl⟩, ⟨Tryz.t109, by kernel_rfl, rfl, rfl, rfl⟩⟩
theorem te110 : TE.ok Tryz.prog 110 ⟨Tryz.t110.desc, Tryz.t110.size, Tryz.t110.bytes, Tryz.t110.zero.getD undef⟩ := ⟨Tryz.underlying110, Tryz.runUnderlying110, Tryz.sizeOf110, Tryz.zeroValue110, Tryz.isAgg110, fun w => ⟨_, Tryz.typeInfo110 w, rfl, rfl⟩, ⟨Tryz.t110, by kernel_rfl, rfl, rfl, rfl⟩⟩
theorem te111 : TE.ok Tryz.prog 111 ⟨Tryz.t111.desc, Tryz.t111.size, Tryz.t111.bytes, Tryz.t111.zero.getD undef⟩ := ⟨Tryz.underlying111, Tryz.runUnderlying111, Tryz.sizeOf111, Tryz.zeroValue111, Tryz.isAgg111, fun w => ⟨_, Tryz.typeInfo111 w, rfl, rfl⟩, ⟨Tryz.t111, by kernel_rfl, rfl, rfl, rfl⟩⟩
theorem te112 : TE.ok Tryz.prog 112 ⟨Tryz.t112.desc, Tryz.t112.size, Tryz.t112.bytes, Tryz.t112.zero.getD undef⟩ := ⟨Tryz.underlying112, Tryz.runUnderlying112, Tryz.sizeOf112, Tryz.zeroValue112, Tryz.isAgg112, fun w => ⟨_, Tryz.typeInfo112 w, rfl, rfl⟩, ⟨Tryz.t112, by kernel_rfl, rfl, rfl, rfl⟩⟩
theorem te113 : TE.ok Tryz.prog 113 ⟨Tryz.t113.desc, Tryz.t113.size, Tryz.t113.bytes, Tryz.t113.zero.getD undef⟩ := ⟨Tryz.underlying113, Tryz.runUnderlying113, Tryz.sizeOf113, Tryz.zeroValue113, Tryz.isAgg113, fun w => ⟨_, Tryz.typeInfo113 w, rfl, rfl⟩, ⟨Tryz.t113, by kernel_rfl, rfl, rfl, rfl⟩⟩
theorem te114 : TE.ok Tryz.prog 114 ⟨Tryz.t114.desc, Tryz.t114.size, Tryz.t114.bytes, Tryz.t114.zero.getD undef⟩ := ⟨Tryz.underlying114, Tryz.runUnderlying114, Tryz.sizeOf114, Tryz.zeroValue114, Tryz.isAgg114, fun w => ⟨_, Tryz.typeInfo114 w, rfl, rfl⟩, ⟨Tryz.t114, by kernel_rfl, rfl, rfl, rfl⟩⟩
theorem te115 : TE.ok Tryz.prog 115 ⟨Tryz.t115.desc, Tryz.t115.size, Tryz.t115.bytes, Tryz.t115.zero.getD undef⟩ := ⟨Tryz.underlying115, Tryz.runUnderlying115, Tryz.sizeOf115, Tryz.zeroValue115, Tryz.isAgg115, fun w => ⟨_, Tryz.typeInfo115 w, rfl, rfl⟩, ⟨Tryz.t115, by kernel_rfl, rfl, rfl, rfl⟩⟩
theorem te116 : TE.ok Tryz.prog 116 ⟨Tryz.t116.desc, Tryz.t116.size, Tryz.t116.bytes, Tryz.t116.zero.getD undef⟩ := ⟨Tryz.underlying116, Tryz.runUnderlying116, Tryz.sizeOf116, Tryz.zeroValue116, Tryz.isAgg116, fun w => ⟨_, Tryz.typeInfo116 w, rfl, rfl⟩, ⟨Tryz.t116, by kernel_rfl, rfl, rfl, rfl⟩⟩
theorem te117 : TE.ok Tryz.prog 117 ⟨Tryz.t117.desc, Tryz.t117.size, Tryz.t117.bytes, Tryz.t117.zero.getD undef⟩ := ⟨Tryz.underlying117, Tryz.runUnderlying117, Tryz.sizeOf117, Tryz.zeroValue117, Tryz.isAgg117, fun w => ⟨_, Tryz.typeInfo117 w, rfl, rfl⟩, ⟨Tryz.t117, by kernel_rfl, rfl, rfl, rfl⟩⟩
theorem te118 : TE.ok Tryz.prog 118 ⟨Tryz.t118.desc, Tryz.t118.size, Tryz.t118.bytes, Tryz.t118.zero.getD undef⟩ := ⟨Tryz.underlying118, Tryz.runUnderlying118, Tryz.sizeOf118, Tryz.zeroValue118, Tryz.isAgg118, fun w => ⟨_, Tryz.typeInfo118 w, rfl, rfl⟩, ⟨Tryz.t118, by kernel_rfl, rfl, rfl, rfl⟩⟩
theorem te119 : TE.ok Tryz.prog 119 ⟨Tryz.t119.desc, Tryz.t119.size, Tryz.t119.bytes, Tryz.t119.zero.getD undef⟩ := ⟨Tryz.underlying119, Tryz.runUnderlying119, Tryz.sizeOf119, Tryz.zeroValue119, Tryz.isAgg119, fun w => ⟨_, Tryz.typeInfo119 w, rfl, rfl⟩, ⟨Tryz.t119, by kernel_rfl, rfl, rfl, rfl⟩⟩
theorem te120 : TE.ok Tryz.prog 120 ⟨Tryz.t120.desc, Tryz.t120.size, Tryz.t120.bytes, Tryz.t120.zero.getD undef⟩ := ⟨Tryz.underlying120, Tryz.runUnderlying120, Tryz.sizeOf120, Tryz.zeroValue120, Tryz.isAgg120, fun w => ⟨_, Tryz.typeInfo120 w, rfl, rfl⟩, ⟨Tryz.t120, by kernel_rfl, rfl, rfl, rfl⟩⟩
theorem te121 : TE.ok Tryz.prog 121 ⟨Tryz.t121.desc, Tryz.t121.size, Tryz.t121.bytes, Tryz.t121.zero.getD undef⟩ := ⟨Tryz.underlying121, Tryz.runUnderlying121, Tryz.sizeOf121, Tryz.zeroValue121, Tryz.isAgg121, fun w => ⟨_, Tryz.typeInfo121 w, rfl, rfl⟩, ⟨Tryz.t121, by kernel_rfl, rfl, rfl, rfl⟩⟩
theorem te122 : TE.ok Tryz.prog 122 ⟨Tryz.t122.desc, Tryz.t122.size, Tryz.t122.bytes, Tryz.t122.zero.getD undef⟩ := ⟨Tryz.underlying122, Tryz.runUnderlying122, Tryz.sizeOf122, Tryz.zeroValue122, Tryz.isAgg122, fun w => ⟨_, Tryz.typeInfo122 w, rfl, rfl⟩, ⟨Tryz.t122, by kernel_rfl, rfl, rfl, rfl⟩⟩
theorem te123 : TE.ok Tryz.prog 123 ⟨Tryz.t123.desc, Tryz.t123.size, Tryz.t123.bytes, Tryz.t123.zero.getD undef⟩ := ⟨Tryz.underlying123, Tryz.runUnderlying123, Tryz.sizeOf123, Tryz.zeroValue123, Tryz.isAgg123, fun w => ⟨_, Tryz.typeInfo123 w, rfl, rfl⟩, ⟨Tryz.t123, by kernel_rfl, rfl, rfl, rfl⟩⟩
theorem te124 : TE.ok Tryz.prog 124 ⟨Tryz.t124.desc, Tryz.t124.size, Tryz.t124.bytes, Tryz.t124.zero.getD undef⟩ := ⟨Tryz.underlying124, Tryz.runUnderlying124, Tryz.sizeOf124, Tryz.zeroValue124, Tryz.isAgg124, fun w => ⟨_, Tryz.typeInfo124 w, rfl, rfl⟩, ⟨Tryz.t124, by kernel_rfl, rfl, rfl, rfl⟩⟩
theorem te125 : TE.ok Tryz.prog 125 ⟨Tryz.t125.desc, Tryz.t125.size, Tryz.t125.bytes, Tryz.t125.zero.getD undef⟩ := ⟨Tryz.underlying125, Tryz.runUnderlying125, Tryz.sizeOf125, Tryz.zeroValue125, Tryz.isAgg125, fun w => ⟨_, Tryz.typeInfo125 w, rfl, rfl⟩, ⟨Tryz.t125, by kernel_rfl, rfl, rfl, rfl⟩⟩
theorem te126 : TE.ok Tryz.prog 126 ⟨Tryz.t126.desc, Tryz.t126.size, Tryz.t126.bytes, Tryz.t126.zero.getD undef⟩ := ⟨Tryz.underlying126, Tryz.runUnderlying126, Tryz.sizeOf126, Tryz.zeroValue126, Tryz.isAgg126, fun w => ⟨_, Tryz.typeInfo126 w, rfl, rfl⟩, ⟨Tryz.t126, by kernel_rfl, rfl, rfl, rfl⟩⟩
theorem te127 : TE.ok Tryz.prog 127 ⟨Tryz.t127.desc, Tryz.t127.size, Tryz.t127.bytes, Tryz.t127.zero.getD undef⟩ := ⟨Tryz.underlying127, Tryz.runUnderlying127, Tryz.sizeOf127, Tryz.zeroValue127, Tryz.isAgg127, fun w => ⟨_, Tryz.typeInfo127 w, rfl, rfl⟩, ⟨Tryz.t127, by kernel_rfl, rfl, rfl, rfl⟩⟩
theorem te128 : TE.ok Tryz.prog 128 ⟨Tryz.t128.desc, Tryz.t128.size, Tryz.t128.bytes, Tryz.t128.zero.getD undef⟩ := ⟨Tryz.underlying128, Tryz.runUnderlying128, Tryz.sizeOf128, Tryz.zeroValue128, Tryz.isAgg128, fun w => ⟨_, Tryz.typeInfo128 w, rfl, rfl⟩, ⟨Tryz.t128, by kernel_rfl, rfl, rfl, rfl⟩⟩
theorem te129 : TE.ok Tryz.prog 129 ⟨Tryz.t129.desc, Tryz.t129.size, Tryz.t129.bytes, Tryz.t129.zero.getD undef⟩ := ⟨Tryz.underlying129, Tryz.runUnderlying129, Tryz.sizeOf129, Tryz.zeroValue129, Tryz.isAgg129, fun w => ⟨_, Tryz.typeInfo129 w, rfl, rfl⟩, ⟨Tryz.t129, by kernel_rfl, rfl, rfl, rfl⟩⟩
theorem te130 : TE.ok Tryz.prog 130 ⟨Tryz.t130.desc, Tryz.t130.size, Tryz.t130.bytes, Tryz.t130.zero.getD undef⟩ := ⟨Tryz.underlying130, Tryz.runUnderlying130, Tryz.sizeOf130, Tryz.zeroValue130, Tryz.isAgg130, fun w => ⟨_, Tryz.typeInfo130 w, rfl, rfl⟩, ⟨Tryz.t130, by kernel_rfl, rfl, rfl, rfl⟩⟩
theorem te131 : TE.ok Tryz.prog 131 ⟨Tryz.t131.desc, Tryz.t131.size, Tryz.t131.bytes, Tryz.t131.zero.getD undef⟩ := ⟨Tryz.underlying131, Tryz.runUnderlying131, Tryz.sizeOf131, Tryz.zeroValue131, Tryz.isAgg131, fun w => ⟨_, Tryz.typeInfo131 w, rfl, rfl⟩, ⟨Tryz.t131, by kernel_rfl, rfl, rfl, rfl⟩⟩
theorem te132 : TE.ok Tryz.prog 132 ⟨Tryz.t132.desc, Tryz.t132.size, Tryz.t132.bytes, Tryz.t132.zero.getD undef⟩ := ⟨Tryz.underlying132, Tryz.runUnderlying132, Tryz.sizeOf132, Tryz.zeroValue132, Tryz.isAgg132, fun w => ⟨_, Tryz.typeInfo132 w, rfl, rfl⟩, ⟨Tryz.t132, by kernel_rfl, rfl, rfl, rfl⟩⟩
theorem te133 : TE.ok Tryz.prog 133 ⟨Tryz.t133.desc, Tryz.t133.size, Tryz.t133.bytes, Tryz.t133.zero.getD undef⟩ := ⟨Tryz.underlying133, Tryz.runUnderlying133, Tryz.sizeOf133, Tryz.zeroValue133, Tryz.isAgg133, fun w => ⟨_, Tryz.typeInfo133 w, rfl, rfl⟩, ⟨Tryz.t133, by kernel_rfl, rfl, rfl, rfl⟩⟩
theorem te134 : TE.ok Tryz.prog 134 ⟨Tryz.t134.desc, Tryz.t134.size, Tryz.t134.bytes, Tryz.t134.zero.getD undef⟩ := ⟨Tryz.underlying134, Tryz.runUnderlying134, Tryz.sizeOf134, Tryz.zeroValue134, Tryz.isAgg134, fun w => ⟨_, Tryz.typeInfo134 w, rfl, rfl⟩, ⟨Tryz.t134, by kernel_rfl, rfl, rfl, rfl⟩⟩
theorem te135 : TE.ok Tryz.prog 135 ⟨Tryz.t135.desc, Tryz.t135.size, Tryz.t135.bytes, Tryz.t135.zero.getD undef⟩ := ⟨Tryz.underlying135, Tryz.runUnderlying135, Tryz.sizeOf135, Tryz.zeroValue135, Tryz.isAgg135, fun w => ⟨_, Tryz.typeInfo135 w, rfl, rfl⟩, ⟨Tryz.t135, by kernel_rfl, rfl, rfl, rfl⟩⟩
theorem te136 : TE.ok Tryz.prog 136 ⟨Tryz.t136.desc, Tryz.t136.size, Tryz.t136.bytes, Tryz.t136.zero.getD undef⟩ := ⟨Tryz.underlying136, Tryz.runUnderlying136, Tryz.sizeOf136, Tryz.zeroValue136, Tryz.isAgg136, fun w => ⟨_, Tryz.typeInfo136 w, rfl, rfl⟩, ⟨Tryz.t136, by kernel_rfl, rfl, rfl, rfl⟩⟩
theorem te137 : TE.ok Tryz.prog 137 ⟨Tryz.t137.desc, Tryz.t137.size, Tryz.t137.bytes, Tryz.t137.zero.getD undef⟩ := ⟨Tryz.underlying137, Tryz.runUnderlying137, Tryz.sizeOf137, Tryz.zeroValue137, Tryz.isAgg137, fun w => ⟨_, Tryz.typeInfo137 w, rfl, rfl⟩, ⟨Tryz.t137, by kernel_rfl, rfl, rfl, rfl⟩⟩
theorem te138 : TE.ok Tryz.prog 138 ⟨Tryz.t138.desc, Tryz.t138.size, Tryz.t138.bytes, Tryz.t138.zero.getD undef⟩ := ⟨Tryz.underlying138, Tryz.runUnderlying138, Tryz.sizeOf138, Tryz.zeroValue138, Tryz.isAgg138, fun w => ⟨_, Tryz.typeInfo138 w, rfl, rfl⟩, ⟨Tryz.t138, by kernel_rfl, rfl, rfl, rfl⟩⟩
theorem te139 : TE.ok Tryz.prog 139 ⟨Tryz.t139.desc, Tryz.t139.size, Tryz.t139.bytes, Tryz.t139.zero.getD undef⟩ := ⟨Tryz.underlying139, Tryz.runUnderlying139, Tryz.sizeOf139, Tryz.zeroValue139, Tryz.isAgg139, fun w => ⟨_, Tryz.typeInfo139 w, rfl, rfl⟩, ⟨Tryz.t139, by kernel_rfl, rfl, rfl, rfl⟩⟩
theorem te140 : TE.ok Tryz.prog 140 ⟨Tryz.t140.desc, Tryz.t140.size, Tryz.t140.bytes, Tryz.t140.zero.getD undef⟩ := ⟨Tryz.underlying140, Tryz.runUnderlying140, Tryz.sizeOf140, Tryz.zeroValue140, Tryz.isAgg140, fun w => ⟨_, Tryz.typeInfo140 w, rfl, rfl⟩, ⟨Tryz.t140, by kernel_rfl, rfl, rfl, rfl⟩⟩
theorem te141 : TE.ok Tryz.prog 141 ⟨Tryz.t141.desc, Tryz.t141.size, Tryz.t141.bytes, Tryz.t141.zero.getD undef⟩ := ⟨Tryz.underlying141, Tryz.runUnderlying141, Tryz.sizeOf141, Tryz.zeroValue141, Tryz.isAgg141, fun w => ⟨_, Tryz.typeInfo141 w, rfl, rfl⟩, ⟨Tryz.t141, by kernel_rfl, rfl, rfl, rfl⟩⟩
theorem te142 : TE.ok Tryz.prog 142 ⟨Tryz.t142.desc, Tryz.t142.size, Tryz.t142.bytes, Tryz.t142.zero.getD undef⟩ := ⟨Tryz.underlying142, Tryz.runUnderlying142, Tryz.sizeOf142, Tryz.zeroValue142, Tryz.isAgg142, fun w => ⟨_, Tryz.typeInfo142 w, rfl, rfl⟩, ⟨Tryz.t142, by kernel_rfl, rfl, rfl, rfl⟩⟩
theorem te143 : TE.ok Tryz.prog 143 ⟨Tryz.t143.desc, Tryz.t143.size, Tryz.t143.bytes, Tryz.t143.zero.getD undef⟩ := ⟨Tryz.underlying143, Tryz.runUnderlying143, Tryz.sizeOf143, Tryz.zeroValue143, Tryz.isAgg143, fun w => ⟨_, Tryz.typeInfo143 w, rfl, rfl⟩, ⟨Tryz.t143, by kernel_rfl, rfl, rfl, rfl⟩⟩
theorem te144 : TE.ok Tryz.prog 144 ⟨Tryz.t144.desc, Tryz.t144.size, Tryz.t144.bytes, Tryz.t144.zero.getD undef⟩ := ⟨Tryz.underlying144, Tryz.runUnderlying144, Tryz.sizeOf144, Tryz.zeroValue144, Tryz.isAgg144, fun w => ⟨_, Tryz.typeInfo144 w, rfl, rfl⟩, ⟨Tryz.t144, by kernel_rfl, rfl, rfl, rfl⟩⟩
theorem te145 : TE.ok Tryz.prog 145 ⟨Tryz.t145.desc, Tryz.t145.size, Tryz.t145.bytes, Tryz.t145.zero.getD undef⟩ := ⟨Tryz.underlying145, Tryz.runUnderlying145, Tryz.sizeOf145, Tryz.zeroValue145, Tryz.isAgg145, fun w => ⟨_, Tryz.typeInfo145 w, rfl, rfl⟩, ⟨Tryz.t145, by kernel_rfl, rfl, rfl, rfl⟩⟩
theorem te146 : TE.ok Tryz.prog 146 ⟨Tryz.t146.desc, Tryz.t146.size, Tryz.t146.bytes, Tryz.t146.zero.getD undef⟩ := ⟨Tryz.underlying146, Tryz.runUnderlying146, Tryz.sizeOf146, Tryz.zeroValue146, Tryz.isAgg146, fun w => ⟨_, Tryz.typeInfo146 w, rfl, rfl⟩, ⟨Tryz.t146, by kernel_rfl, rfl, rfl, rfl⟩⟩
theorem te147 : TE.ok Tryz.prog 147 ⟨Tryz.t147.desc, Tryz.t147.size, Tryz.t147.bytes, Tryz.t147.zero.getD undef⟩ := ⟨Tryz.underlying147, Tryz.runUnderlying147, Tryz.sizeOf147, Tryz.zeroValue147, Tryz.isAgg147, fun w => ⟨_, Tryz.typeInfo147 w, rfl, rfl⟩, ⟨Tryz.t147, by kernel_rfl, rfl, rfl, rfl⟩⟩
theorem te148 : TE.ok Tryz.prog 148 ⟨Tryz.t148.desc, Tryz.t148.size, Tryz.t148.bytes, Tryz.t148.zero.getD undef⟩ := ⟨Tryz.underlying148, Tryz.runUnderlying148, Tryz.sizeOf148, Tryz.zeroValue148, Tryz.isAgg148, fun w => ⟨_, Tryz.typeInfo148 w, rfl, rfl⟩, ⟨Tryz.t148, by kernel_rfl, rfl, rfl, rfl⟩⟩
theorem te149 : TE.ok Tryz.prog 149 ⟨Tryz.t149.desc, Tryz.t149.size, Tryz.t149.bytes, Tryz.t149.zero.getD undef⟩ := ⟨Tryz.underlying149, Tryz.runUnderlying149, Tryz.sizeOf149, Tryz.zeroValue149, Tryz.isAgg149, fun w => ⟨_, Tryz.typeInfo149 w, rfl, rfl⟩, ⟨Tryz.t149, by kernel_rfl, rfl, rfl, rfl⟩⟩
theorem te150 : TE.ok Tryz.prog 150 ⟨Tryz.t149.desc, Tryz.t150.size, Tryz.t150.bytes, Tryz.t150.zero.getD undef⟩ := ⟨Tryz.underlying150, Tryz.runUnderlying150, Tryz.sizeOf150, Tryz.zeroValue150, Tryz.isAgg150, fun w => ⟨_, Tryz.typeInfo150 w, rfl, rfl⟩, ⟨Tryz.t150, by kernel_rfl, rfl, rfl, rfl⟩⟩
theorem te151 : TE.ok Tryz.prog 151 ⟨Tryz.t151.desc, Tryz.t151.size, Tryz.t151.bytes, Tryz.t151.zero.getD undef⟩ := ⟨Tryz.underlying151, Tryz.runUnderlying151, Tryz.sizeOf151, Tryz.zeroValue151, Tryz.isAgg151, fun w => ⟨_, Tryz.typeInfo151 w, rfl, rfl⟩, ⟨Tryz.t151, by kernel_rfl, rfl, rfl, rfl⟩⟩
theorem te152 : TE.ok Tryz.prog 152 ⟨Tryz.t152.desc, Tryz.t152.size, Tryz.t152.bytes, Tryz.t152.zero.getD undef⟩ := ⟨Tryz.underlying152, Tryz.runUnderlying152, Tryz.sizeOf152, Tryz.zeroValue152, Tryz.isAgg152, fun w => ⟨_, Tryz.typeInfo152 w, rfl, rfl⟩, ⟨Tryz.t152, by kernel_rfl, rfl, rfl, rfl⟩⟩
theorem te153 : TE.ok Tryz.prog 153 ⟨Tryz.t152.desc, Tryz.t153.size, Tryz.t153.bytes, Tryz.t153.zero.getD undef⟩ := ⟨Tryz.underlying153, Tryz.runUnderlying153, Tryz.sizeOf153, Tryz.zeroValue153, Tryz.isAgg153, fun w => ⟨_, Tryz.typeInfo153 w, rfl, rfl⟩, ⟨Tryz.t153, by kernel_rfl, rfl, rfl, rfl⟩⟩
theorem te154 : TE.ok Tryz.prog 154 ⟨Tryz.t154.desc, Tryz.t154.size, Tryz.t154.bytes, Tryz.t154.zero.getD undef⟩ := ⟨Tryz.underlying154, Tryz.runUnderlying154, Tryz.sizeOf154, Tryz.zeroValue154, Tryz.isAgg154, fun w => ⟨_, Tryz.typeInfo154 w, rfl, rfl⟩, ⟨Tryz.t154, by kernel_rfl, rfl, rfl, rfl⟩⟩
theorem te155 : TE.ok Tryz.prog 155 ⟨Tryz.t155.desc, Tryz.t155.size, Tryz.t155.bytes, Tryz.t155.zero.getD undef⟩ := ⟨Tryz.underlying155, Tryz.runUnderlying155, Tryz.sizeOf155, Tryz.zeroValue155, Tryz.isAgg155, fun w => ⟨_, Tryz.typeInfo155 w, rfl, rfl⟩, ⟨Tryz.t155, by kernel_rfl, rfl, rfl, rfl⟩⟩
theorem te156 : TE.ok Tryz.prog 156 ⟨Tryz.t156.desc, Tryz.t156.size, Tryz.t156.bytes, Tryz.t156.zero.getD undef⟩ := ⟨Tryz.underlying156, Tryz.runUnderlying156, Tryz.sizeOf156, Tryz.zeroValue156, Tryz.isAgg156, fun w => ⟨_, Tryz.typeInfo156 w, rfl, rfl⟩, ⟨Tryz.t156, by kernel_rfl, rfl, rfl, rfl⟩⟩
theorem te157 : TE.ok Tryz.prog 157 ⟨Tryz.t157.desc, Tryz.t157.size, Tryz.t157.bytes, Tryz.t157.zero.getD undef⟩ := ⟨Tryz.underlying157, Tryz.runUnderlying157, Tryz.sizeOf157, Tryz.zeroValue157, Tryz.isAgg157, fun w => ⟨_, Tryz.typeInfo157 w, rfl, rfl⟩, ⟨Tryz.t157, by kernel_rfl, rfl, rfl, rfl⟩⟩
theorem te158 : TE.ok Tryz.prog 158 ⟨Tryz.t158.desc, Tryz.t158.size, Tryz.t158.bytes, Tryz.t158.zero.getD undef⟩ := ⟨Tryz.underlying158, Tryz.runUnderlying158, Tryz.sizeOf158, Tryz.zeroValue158, Tryz.isAgg158, fun w => ⟨_, Tryz.typeInfo158 w, rfl, rfl⟩, ⟨Tryz.t158, by kernel_rfl, rfl, rfl, rfl⟩⟩
theorem te159 : TE.ok Tryz.prog 159 ⟨Tryz.t159.desc, Tryz.t159.size, Tryz.t159.bytes, Tryz.t159.zero.getD undef⟩ := ⟨Tryz.underlying159, Tryz.runUnderlying159, Tryz.sizeOf159, Tryz.zeroValue159, Tryz.isAgg159, fun w => ⟨_, Tryz.typeInfo159 w, rfl, rfl⟩, ⟨Tryz.t159, by kernel_rfl, rfl, rfl, rfl⟩⟩
theorem te160 : TE.ok Tryz.prog 160 ⟨Tryz.t160.desc, Tryz.t160.size, Tryz.t160.bytes, Tryz.t160.zero.getD undef⟩ := ⟨Tryz.underlying160, Tryz.runUnderlying160, Tryz.sizeOf160, Tryz.zeroValue160, Tryz.isAgg160, fun w => ⟨_, Tryz.typeInfo160 w, rfl, rfl⟩, ⟨Tryz.t160, by kernel_rfl, rfl, rfl, rfl⟩⟩
theorem te161 : TE.ok Tryz.prog 161 ⟨Tryz.t161.desc, Tryz.t161.size, Tryz.t161.bytes, Tryz.t161.zero.getD undef⟩ := ⟨Tryz.underlying161, Tryz.runUnderlying161, Tryz.sizeOf161, Tryz.zeroValue161, Tryz.isAgg161, fun w => ⟨_, Tryz.typeInfo161 w, rfl, rfl⟩, ⟨Tryz.t161, by kernel_rfl, rfl, rfl, rfl⟩⟩
theorem te162 : TE.ok Tryz.prog 162 ⟨Tryz.t162.desc, Tryz.t162.size, Tryz.t162.bytes, Tryz.t162.zero.getD undef⟩ := ⟨Tryz.underlying162, Tryz.runUnderlying162, Tryz.sizeOf162, Tryz.zeroValue162, Tryz.isAgg162, fun w => ⟨_, Tryz.typeInfo162 w, rfl, rfl⟩, ⟨Tryz.t162, by kernel_rfl, rfl, rfl, rfl⟩⟩
theorem te163 : TE.ok Tryz.prog 163 ⟨Tryz.t163.desc, Tryz.t163.size, Tryz.t163.bytes, Tryz.t163.zero.getD undef⟩ := ⟨Tryz.underlying163, Tryz.runUnderlying163, Tryz.sizeOf163, Tryz.zeroValue163, Tryz.isAgg163, fun w => ⟨_, Tryz.typeInfo163 w, rfl, rfl⟩, ⟨Tryz.t163, by kernel_rfl, rfl, rfl, rfl⟩⟩
theorem te164 : TE.ok Tryz.prog 164 ⟨Tryz.t164.desc, Tryz.t164.size, Tryz.t164.bytes, Tryz.t164.zero.getD undef⟩ := ⟨Tryz.underlying164, Tryz.runUnderlying164, Tryz.sizeOf164, Tryz.zeroValue164, Tryz.isAgg164, fun w => ⟨_, Tryz.typeInfo164 w, rfl, rfl⟩, ⟨Tryz.t164, by kernel_rfl, rfl, rfl, rfl⟩⟩
theorem te165 : TE.ok Tryz.prog 165 ⟨Tryz.t165.desc, Tryz.t165.size, Tryz.t165.bytes, Tryz.t165.zero.getD undef⟩ := ⟨Tryz.underlying165, Tryz.runUnderlying165, Tryz.sizeOf165, Tryz.zeroValue165, Tryz.isAgg165, fun w => ⟨_, Tryz.typeInfo165 w, rfl, rfl⟩, ⟨Tryz.t165, by kernel_rfl, rfl, rfl, rfl⟩⟩
theorem te166 : TE.ok Tryz.prog 166 ⟨Tryz.t166.desc, Tryz.t166.size, Tryz.t166.bytes, Tryz.t166.zero.getD undef⟩ := ⟨Tryz.underlying166, Tryz.runUnderlying166, Tryz.sizeOf166, Tryz.zeroValue166, Tryz.isAgg166, fun w => ⟨_, Tryz.typeInfo166 w, rfl, rfl⟩, ⟨Tryz.t166, by kernel_rfl, rfl, rfl, rfl⟩⟩
theorem te167 : TE.ok Tryz.prog 167 ⟨Tryz.t167.desc, Tryz.t167.size, Tryz.t167.bytes, Tryz.t167.zero.getD undef⟩ := ⟨Tryz.underlying167, Tryz.runUnderlying167, Tryz.sizeOf167, Tryz.zeroValue167, Tryz.isAgg167, fun w => ⟨_, Tryz.typeInfo167 w, rfl, rfl⟩, ⟨Tryz.t167, by kernel_rfl, rfl, rfl, rfl⟩⟩
theorem te168 : TE.ok Tryz.prog 168 ⟨Tryz.t168.desc, Tryz.t168.size, Tryz.t168.bytes, Tryz.t168.zero.getD undef⟩ := ⟨Tryz.underlying168, Tryz.runUnderlying168, Tryz.sizeOf168, Tryz.zeroValue168, Tryz.isAgg168, fun w => ⟨_, Tryz.typeInfo168 w, rfl, rfl⟩, ⟨Tryz.t168, by kernel_rfl, rfl, rfl, rfl⟩⟩
theorem te169 : TE.ok Tryz.prog 169 ⟨Tryz.t169.desc, Tryz.t169.size, Tryz.t169.bytes, Tryz.t169.zero.getD undef⟩ := ⟨Tryz.underlying169, Tryz.runUnderlying169, Tryz.sizeOf169, Tryz.zeroValue169, Tryz.isAgg169, fun w => ⟨_, Tryz.typeInfo169 w, rfl, rfl⟩, ⟨Tryz.t169, by kernel_rfl, rfl, rfl, rfl⟩⟩
theorem te170 : TE.ok Tryz.prog 170 ⟨Tryz.t170.desc, Tryz.t170.size, Tryz.t170.bytes, Tryz.t170.zero.getD undef⟩ := ⟨Tryz.underlying170, Tryz.runUnderlying170, Tryz.sizeOf170, Tryz.zeroValue170, Tryz.isAgg170, fun w => ⟨_, Tryz.typeInfo170 w, rfl, rfl⟩, ⟨Tryz.t170, by kernel_rfl, rfl, rfl, rfl⟩⟩
theorem te171 : TE.ok Tryz.prog 171 ⟨Tryz.t171.desc, Tryz.t171.size, Tryz.t171.bytes, Tryz.t171.zero.getD undef⟩ := ⟨Tryz.underlying171, Tryz.runUnderlying171, Tryz.sizeOf171, Tryz.zeroValue171, Tryz.isAgg171, fun w => ⟨_, Tryz.typeInfo171 w, rfl, rfl⟩, ⟨Tryz.t171, by kernel_rfl, rfl, rfl, rfl⟩⟩
theorem te172 : TE.ok Tryz.prog 172 ⟨Tryz.t171.desc, Tryz.t172.size, Tryz.t172.bytes, Tryz.t172.zero.getD undef⟩ := ⟨Tryz.underlying172, Tryz.runUnderlying172, Tryz.sizeOf172, Tryz.zeroValue172, Tryz.isAgg172, fun w => ⟨_, Tryz.typeInfo172 w, rfl, rfl⟩, ⟨Tryz.t172, by kernel_rfl, rfl, rfl, rfl⟩⟩
theorem te173 : TE.ok Tryz.prog 173 ⟨Tryz.t173.desc, Tryz.t173.size, Tryz.t173.bytes, Tryz.t173.zero.getD undef⟩ := ⟨Tryz.underlying173, Tryz.runUnderlying173, Tryz.sizeOf173, Tryz.zeroValue173, Tryz.isAgg173, fun w => ⟨_, Tryz.typeInfo173 w, rfl, rfl⟩, ⟨Tryz.t173, by kernel_rfl, rfl, rfl, rfl⟩⟩
theorem te174 : TE.ok Tryz.prog 174 ⟨Tryz.t174.desc, Tryz.t174.size, Tryz.t174.bytes, Tryz.t174.zero.getD undef⟩ := ⟨Tryz.underlying174, Tryz.runUnderlying174, Tryz.sizeOf174, Tryz.zeroValue174, Tryz.isAgg174, fun w => ⟨_, Tryz.typeInfo174 w, rfl, rfl⟩, ⟨Tryz.t174, by kernel_rfl, rfl, rfl, rfl⟩⟩
theorem te175 : TE.ok Tryz.prog 175 ⟨Tryz.t175.desc, Tryz.t175.size, Tryz.t175.bytes, Tryz.t175.zero.getD undef⟩ := ⟨Tryz.underlying175, Tryz.runUnderlying175, Tryz.sizeOf175, Tryz.zeroValue175, Tryz.isAgg175, fun w => ⟨_, Tryz.typeInfo175 w, rfl, rfl⟩, ⟨Tryz.t175, by kernel_rfl, rfl, rfl, rfl⟩⟩
theorem te176 : TE.ok Tryz.prog 176 ⟨Tryz.t176.desc, Tryz.t176.size, Tryz.t176.bytes, Tryz.t176.zero.getD undef⟩ := ⟨Tryz.underlying176, Tryz.runUnderlying176, Tryz.sizeOf176, Tryz.zeroValue176, Tryz.isAgg176, fun w => ⟨_, Tryz.typeInfo176 w, rfl, rfl⟩, ⟨Tryz.t176, by kernel_rfl, rfl, rfl, rfl⟩⟩
theorem te177 : TE.ok Tryz.prog 177 ⟨Tryz.t177.desc, Tryz.t177.size, Tryz.t177.bytes, Tryz.t177.zero.getD undef⟩ := ⟨Tryz.underlying177, Tryz.runUnderlying177, Tryz.sizeOf177, Tryz.zeroValue177, Tryz.isAgg177, fun w => ⟨_, Tryz.typeInfo177 w, rfl, rfl⟩, ⟨Tryz.t177, by kernel_rfl, rfl, rfl, rfl⟩⟩
theorem te178 : TE.ok Tryz.prog 178 ⟨Tryz.t178.desc, Tryz.t178.size, Tryz.t178.bytes, Tryz.t178.zero.getD undef⟩ := ⟨Tryz.underlying178, Tryz.runUnderlying178, Tryz.sizeOf178, Tryz.zeroValue178, Tryz.isAgg178, fun w => ⟨_, Tryz.typeInfo178 w, rfl, rfl⟩, ⟨Tryz.t178, by kernel_rfl, rfl, rfl, rfl⟩⟩
theorem te179 : TE.ok Tryz.prog 179 ⟨Tryz.t178.desc, Tryz.t179.size, Tryz.t179.bytes, Tryz.t179.zero.getD undef⟩ := ⟨Tryz.underlying179, Tryz.runUnderlying179, Tryz.sizeOf179, Tryz.zeroValue179, Tryz.isAgg179, fun w => ⟨_, Tryz.typeInfo179 w, rfl, rfl⟩, ⟨Tryz.t179, by kernel_rfl, rfl, rfl, rfl⟩⟩
theorem te180 : TE.ok Tryz.prog 180 ⟨Tryz.t180.desc, Tryz.t180.size, Tryz.t180.bytes, Tryz.t180.zero.getD undef⟩ := ⟨Tryz.underlying180, Tryz.runUnderlying180, Tryz.sizeOf180, Tryz.zeroValue180, Tryz.isAgg180, fun w => ⟨_, Tryz.typeInfo180 w, rfl, rfl⟩, ⟨Tryz.t180, by kernel_rfl, rfl, rfl, rfl⟩⟩
theorem te181 : TE.ok Tryz.prog 181 ⟨Tryz.t181.desc, Tryz.t181.size, Tryz.t181.bytes, Tryz.t181.zero.getD undef⟩ := ⟨Tryz.underlying181, Tryz.runUnderlying181, Tryz.sizeOf181, Tryz.zeroValue181, Tryz.isAgg181, fun w => ⟨_, Tryz.typeInfo181 w, rfl, rfl⟩, ⟨Tryz.t181, by kernel_rfl, rfl, rfl, rfl⟩⟩
theorem te182 : TE.ok Tryz.prog 182 ⟨Tryz.t182.desc, Tryz.t182.size, Tryz.t182.bytes, Tryz.t182.zero.getD undef⟩ := ⟨Tryz.underlying182, Tryz.runUnderlying182, Tryz.sizeOf182, Tryz.zeroValue182, Tryz.isAgg182, fun w => ⟨_, Tryz.typeInfo182 w, rfl, rfl⟩, ⟨Tryz.t182, by kernel_rfl, rfl, rfl, rfl⟩⟩
theorem te183 : TE.ok Tryz.prog 183 ⟨Tryz.t183.desc, Tryz.t183.size, Tryz.t183.bytes, Tryz.t183.zero.getD undef⟩ := ⟨Tryz.underlying183, Tryz.runUnderlying183, Tryz.sizeOf183, Tryz.zeroValue183, Tryz.isAgg183, fun w => ⟨_, Tryz.typeInfo183 w, rfl, rfl⟩, ⟨Tryz.t183, by kernel_rfl, rfl, rfl, rfl⟩⟩
theorem te184 : TE.ok Tryz.prog 184 ⟨Tryz.t184.desc, Tryz.t184.size, Tryz.t184.bytes, Tryz.t184.zero.getD undef⟩ := ⟨Tryz.underlying184, Tryz.runUnderlying184, Tryz.sizeOf184, Tryz.zeroValue184, Tryz.isAgg184, fun w => ⟨_, Tryz.typeInfo184 w, rfl, rfl⟩, ⟨Tryz.t184, by kernel_rfl, rfl, rfl, rfl⟩⟩
theorem te185 : TE.ok Tryz.prog 185 ⟨Tryz.t185.desc, Tryz.t185.size, Tryz.t185.bytes, Tryz.t185.zero.getD undef⟩ := ⟨Tryz.underlying185, Tryz.runUnderlying185, Tryz.sizeOf185, Tryz.zeroValue185, Tryz.isAgg185, fun w => ⟨_, Tryz.typeInfo185 w, rfl, rfl⟩, ⟨Tryz.t185, by kernel_rfl, rfl, rfl, rfl⟩⟩
theorem te186 : TE.ok Tryz.prog 186 ⟨Tryz.t186.desc, Tryz.t186.size, Tryz.t186.bytes, Tryz.t186.zero.getD undef⟩ := ⟨Tryz.underlying186, Tryz.runUnderlying186, Tryz.sizeOf186, Tryz.zeroValue186, Tryz.isAgg186, fun w => ⟨_, Tryz.typeInfo186 w, rfl, rfl⟩, ⟨Tryz.t186, by kernel_rfl, rfl, rfl, rfl⟩⟩
theorem te187 : TE.ok Tryz.prog 187 ⟨Tryz.t187.desc, Tryz.t187.size, Tryz.t187.bytes, Tryz.t187.zero.getD undef⟩ := ⟨Tryz.underlying187, Tryz.runUnderlying187, Tryz.sizeOf187, Tryz.zeroValue187, Tryz.isAgg187, fun w => ⟨_, Tryz.typeInfo187 w, rfl, rfl⟩, ⟨Tryz.t187, by kernel_rfl, rfl, rfl, rfl⟩⟩
theorem te188 : TE.ok Tryz.prog 188 ⟨Tryz.t188.desc, Tryz.t188.size, Tryz.t188.bytes, Tryz.t188.zero.getD undef⟩ := ⟨Tryz.underlying188, Tryz.runUnderlying188, Tryz.sizeOf188, Tryz.zeroValue188, Tryz.isAgg188, fun w => ⟨_, Tryz.typeInfo188 w, rfl, rfl⟩, ⟨Tryz.t188, by kernel_rfl, rfl, rfl, rfl⟩⟩
theorem te189 : TE.ok Tryz.prog 189 ⟨Tryz.t189.desc, Tryz.t189.size, Tryz.t189.bytes, Tryz.t189.zero.getD undef⟩ := ⟨Tryz.underlying189, Tryz.runUnderlying189, Tryz.sizeOf189, Tryz.zeroValue189, Tryz.isAgg189, fun w => ⟨_, Tryz.typeInfo189 w, rfl, rfl⟩, ⟨Tryz.t189, by kernel_rfl, rfl, rfl, rfl⟩⟩
theorem te190 : TE.ok Tryz.prog 190 ⟨Tryz.t190.desc, Tryz.t190.size, Tryz.t190.bytes, Tryz.t190.zero.getD undef⟩ := ⟨Tryz.underlying190, Tryz.runUnderlying190, Tryz.sizeOf190, Tryz.zeroValue190, Tryz.isAgg190, fun w => ⟨_, Tryz.typeInfo190 w, rfl, rfl⟩, ⟨Tryz.t190, by kernel_rfl, rfl, rfl, rfl⟩⟩
theorem te191 : TE.ok Tryz.prog 191 ⟨Tryz.t191.desc, Tryz.t191.size, Tryz.t191.bytes, Tryz.t191.zero.getD undef⟩ := ⟨Tryz.underlying191, Tryz.runUnderlying191, Tryz.sizeOf191, Tryz.zeroValue191, Tryz.isAgg191, fun w => ⟨_, Tryz.typeInfo191 w, rfl, rfl⟩, ⟨Tryz.t191, by kernel_rfl, rfl, rfl, rfl⟩⟩
theorem te192 : TE.ok Tryz.prog 192 ⟨Tryz.t192.desc, Tryz.t192.size, Tryz.t192.bytes, Tryz.t192.zero.getD undef⟩ := ⟨Tryz.underlying192, Tryz.runUnderlying192, Tryz.sizeOf192, Tryz.zeroValue192, Tryz.isAgg192, fun w => ⟨_, Tryz.typeInfo192 w, rfl, rfl⟩, ⟨Tryz.t192, by kernel_rfl, rfl, rfl, rfl⟩⟩
theorem te193 : TE.ok Tryz.prog 193 ⟨Tryz.t193.desc, Tryz.t193.size, Tryz.t193.bytes, Tryz.t193.zero.getD undef⟩ := ⟨Tryz.underlying193, Tryz.runUnderlying193, Tryz.sizeOf193, Tryz.zeroValue193, Tryz.isAgg193, fun w => ⟨_, Tryz.typeInfo193 w, rfl, rfl⟩, ⟨Tryz.t193, by kernel_rfl, rfl, rfl, rfl⟩⟩
theorem te194 : TE.ok Tryz.prog 194 ⟨Tryz.t194.desc, Tryz.t194.size, Tryz.t194.bytes, Tryz.t194.zero.getD undef⟩ := ⟨Tryz.underlying194, Tryz.runUnderlying194, Tryz.sizeOf194, Tryz.zeroValue194, Tryz.isAgg194, fun w => ⟨_, Tryz.typeInfo194 w, rfl, rfl⟩, ⟨Tryz.t194, by kernel_rfl, rfl, rfl, rfl⟩⟩
theorem te195 : TE.ok Tryz.prog 195 ⟨Tryz.t195.desc, Tryz.t195.size, Tryz.t195.bytes, Tryz.t195.zero.getD undef⟩ := ⟨Tryz.underlying195, Tryz.runUnderlying195, Tryz.sizeOf195, Tryz.zeroValue195, Tryz.isAgg195, fun w => ⟨_, Tryz.typeInfo195 w, rfl, rfl⟩, ⟨Tryz.t195, by kernel_rfl, rfl, rfl, rfl⟩⟩
theorem te196 : TE.ok Tryz.prog 196 ⟨Tryz.t196.desc, Tryz.t196.size, Tryz.t196.bytes, Tryz.t196.zero.getD undef⟩ := ⟨Tryz.underlying196, Tryz.runUnderlying196, Tryz.sizeOf196, Tryz.zeroValue196, Tryz.isAgg196, fun w => ⟨_, Tryz.typeInfo196 w, rfl, rfl⟩, ⟨Tryz.t196, by kernel_rfl, rfl, rfl, rfl⟩⟩
theorem te197 : TE.ok Tryz.prog 197 ⟨Tryz.t197.desc, Tryz.t197.size, Tryz.t197.bytes, Tryz.t197.zero.getD undef⟩ := ⟨Tryz.underlying197, Tryz.runUnderlying197, Tryz.sizeOf197, Tryz.zeroValue197, Tryz.isAgg197, fun w => ⟨_, Tryz.typeInfo197 w, rfl, rfl⟩, ⟨Tryz.t197, by kernel_rfl, rfl, rfl, rfl⟩⟩
theorem te198 : TE.ok Tryz.prog 198 ⟨Tryz.t198.desc, Tryz.t198.size, Tryz.t198.bytes, Tryz.t198.zero.getD undef⟩ := ⟨Tryz.underlying198, Tryz.runUnderlying198, Tryz.sizeOf198, Tryz.zeroValue198, Tryz.isAgg198, fun w => ⟨_, Tryz.typeInfo198 w, rfl, rfl⟩, ⟨Tryz.t198, by kernel_rfl, rfl, rfl, rfl⟩⟩
theorem te199 : TE.ok Tryz.prog 199 ⟨Tryz.t199.desc, Tryz.t199.size, Tryz.t199.bytes, Tryz.t199.zero.getD undef⟩ := ⟨Tryz.underlying199, Tryz.runUnderlying199, Tryz.sizeOf199, Tryz.zeroValue199, Tryz.isAgg199, fun w => ⟨_, Tryz.typeInfo199 w, rfl, rfl⟩, ⟨Tryz.t199, by kernel_rfl, rfl, rfl, rfl⟩⟩
theorem te200 : TE.ok Tryz.prog 200 ⟨Tryz.t200.desc, Tryz.t200.size, Tryz.t200.bytes, Tryz.t200.zero.getD undef⟩ := ⟨Tryz.underlying200, Tryz.runUnderlying200, Tryz.sizeOf200, Tryz.zeroValue200, Tryz.isAgg200, fun w => ⟨_, Tryz.typeInfo200 w, rfl, rfl⟩, ⟨Tryz.t200, by kernel_rfl, rfl, rfl, rfl⟩⟩
theorem te201 : TE.ok Tryz.prog 201 ⟨Tryz.t201.desc, Tryz.t201.size, Tryz.t201.bytes, Tryz.t201.zero.getD undef⟩ := ⟨Tryz.underlying201, Tryz.runUnderlying201, Tryz.sizeOf201, Tryz.zeroValue201, Tryz.isAgg201, fun w => ⟨_, Tryz.typeInfo201 w, rfl, rfl⟩, ⟨Tryz.t201, by kernel_rfl, rfl, rfl, rfl⟩⟩
theorem te202 : TE.ok Tryz.prog 202 ⟨Tryz.t201.desc, Tryz.t202.size, Tryz.t202.bytes, Tryz.t202.zero.getD undef⟩ := ⟨Tryz.underlying202, Tryz.runUnderlying202, Tryz.sizeOf202, Tryz.zeroValue202, Tryz.isAgg202, fun w => ⟨_, Tryz.typeInfo202 w, rfl, rfl⟩, ⟨Tryz.t202, by kernel_rfl, rfl, rfl, rfl⟩⟩
theorem te203 : TE.ok Tryz.prog 203 ⟨Tryz.t203.desc, Tryz.t203.size, Tryz.t203.bytes, Tryz.t203.zero.getD undef⟩ := ⟨Tryz.underlying203, Tryz.runUnderlying203, Tryz.sizeOf203, Tryz.zeroValue203, Tryz.isAgg203, fun w => ⟨_, Tryz.typeInfo203 w, rfl, rfl⟩, ⟨Tryz.t203, by kernel_rfl, rfl, rfl, rfl⟩⟩
theorem te204 : TE.ok Tryz.prog 204 ⟨Tryz.t204.desc, Tryz.t204.size, Tryz.t204.bytes, Tryz.t204.zero.getD undef⟩ := ⟨Tryz.underlying204, Tryz.runUnderlying204, Tryz.sizeOf204, Tryz.zeroValue204, Tryz.isAgg204, fun w => ⟨_, Tryz.typeInfo204 w, rfl, rfl⟩, ⟨Tryz.t204, by kernel_rfl, rfl, rfl, rfl⟩⟩
theorem te205 : TE.ok Tryz.prog 205 ⟨Tryz.t205.desc, Tryz.t205.size, Tryz.t205.bytes, Tryz.t205.zero.getD undef⟩ := ⟨Tryz.underlying205, Tryz.runUnderlying205, Tryz.sizeOf205, Tryz.zeroValue205, Tryz.isAgg205, fun w => ⟨_, Tryz.typeInfo205 w, rfl, rfl⟩, ⟨Tryz.t205, by kernel_rfl, rfl, rfl, rfl⟩⟩
theorem te206 : TE.ok Tryz.prog 206 ⟨Tryz.t206.desc, Tryz.t206.size, Tryz.t206.bytes, Tryz.t206.zero.getD undef⟩ := ⟨Tryz.underlying206, Tryz.runUnderlying206, Tryz.sizeOf206, Tryz.zeroValue206, Tryz.isAgg206, fun w => ⟨_, Tryz.typeInfo206 w, rfl, rfl⟩, ⟨Tryz.t206, by kernel_rfl, rfl, rfl, rfl⟩⟩
theorem te207 : TE.ok Tryz.prog 207 ⟨Tryz.t207.desc, Tryz.t207.size, Tryz.t207.bytes, Tryz.t207.zero.getD undef⟩ := ⟨Tryz.underlying207, Tryz.runUnderlying207, Tryz.sizeOf207, Tryz.zeroValue207, Tryz.isAgg207, fun w => ⟨_, Tryz.typeInfo207 w, rfl, rfl⟩, ⟨Tryz.t207, by kernel_rfl, rfl, rfl, rfl⟩⟩
theorem te208 : TE.ok Tryz.prog 208 ⟨Tryz.t207.desc, Tryz.t208.size, Tryz.t208.bytes, Tryz.t208.zero.getD undef⟩ := ⟨Tryz.underlying208, Tryz.runUnderlying208, Tryz.sizeOf208, Tryz.zeroValue208, Tryz.isAgg208, fun w => ⟨_, Tryz.typeInfo208 w, rfl, rfl⟩, ⟨Tryz.t208, by kernel_rfl, rfl, rfl, rfl⟩⟩
theorem te209 : TE.ok Tryz.prog 209 ⟨Tryz.t209.desc, Tryz.t209.size, Tryz.t209.bytes, Tryz.t209.zero.getD undef⟩ := ⟨Tryz.underlying209, Tryz.runUnderlying209, Tryz.sizeOf209, Tryz.zeroValue209, Tryz.isAgg209, fun w => ⟨_, Tryz.typeInfo209 w, rfl, rfl⟩, ⟨Tryz.t209, by kernel_rfl, rfl, rfl, rfl⟩⟩
theorem te210 : TE.ok Tryz.prog 210 ⟨Tryz.t210.desc, Tryz.t210.size, Tryz.t210.bytes, Tryz.t210.zero.getD undef⟩ := ⟨Tryz.underlying210, Tryz.runUnderlying210, Tryz.sizeOf210, Tryz.zeroValue210, Tryz.isAgg210, fun w => ⟨_, Tryz.typeInfo210 w, rfl, rfl⟩, ⟨Tryz.t210, by kernel_rfl, rfl, rfl, rfl⟩⟩
theorem te211 : TE.ok Tryz.prog 211 ⟨Tryz.t211.desc, Tryz.t211.size, Tryz.t211.bytes, Tryz.t211.zero.getD undef⟩ := ⟨Tryz.underlying211, Tryz.runUnderlying211, Tryz.sizeOf211, Tryz.zeroValue211, Tryz.isAgg211, fun w => ⟨_, Tryz.typeInfo211 w, rfl, rfl⟩, ⟨Tryz.t211, by kernel_rfl, rfl, rfl, rfl⟩⟩
theorem te212 : TE.ok Tryz.prog 212 ⟨Tryz.t212.desc, Tryz.t212.size, Tryz.t212.bytes, Tryz.t212.zero.getD undef⟩ := ⟨Tryz.underlying212, Tryz.runUnderlying212, Tryz.sizeOf212, Tryz.zeroValue212, Tryz.isAgg212, fun w => ⟨_, Tryz.typeInfo212 w, rfl, rfl⟩, ⟨Tryz.t212, by kernel_rfl, rfl, rfl, rfl⟩⟩
theorem te213 : TE.ok Tryz.prog 213 ⟨Tryz.t213.desc, Tryz.t213.size, Tryz.t213.bytes, Tryz.t213.zero.getD undef⟩ := ⟨Tryz.underlying213, Tryz.runUnderlying213, Tryz.sizeOf213, Tryz.zeroValue213, Tryz.isAgg213, fun w => ⟨_, Tryz.typeInfo213 w, rfl, rfl⟩, ⟨Tryz.t213, by kernel_rfl, rfl, rfl, rfl⟩⟩
theorem te214 : TE.ok Tryz.prog 214 ⟨Tryz.t214.desc, Tryz.t214.size, Tryz.t214.bytes, Tryz.t214.zero.getD undef⟩ := ⟨Tryz.underlying214, Tryz.runUnderlying214, Tryz.sizeOf214, Tryz.zeroValue214, Tryz.isAgg214, fun w => ⟨_, Tryz.typeInfo214 w, rfl, rfl⟩, ⟨Tryz.t214, by kernel_rfl, rfl, rfl, rfl⟩⟩
theorem te215 : TE.ok Tryz.prog 215 ⟨Tryz.t215.desc, Tryz.t215.size, Tryz.t215.bytes, Tryz.t215.zero.getD undef⟩ := ⟨Tryz.underlying215, Tryz.runUnderlying215, Tryz.sizeOf215, Tryz.zeroValue215, Tryz.isAgg215, fun w => ⟨_, Tryz.typeInfo215 w, rfl, rfl⟩, ⟨Tryz.t215, by kernel_rfl, rfl, rfl, rfl⟩⟩
theorem te216 : TE.ok Tryz.prog 216 ⟨Tryz.t216.desc, Tryz.t216.size, Tryz.t216.bytes, Tryz.t216.zero.getD undef⟩ := ⟨Tryz.underlying216, Tryz.runUnderlying216, Tryz.sizeOf216, Tryz.zeroValue216, Tryz.isAgg216, fun w => ⟨_, Tryz.typeInfo216 w, rfl, rfl⟩, ⟨Tryz.t216, by kernel_rfl, rfl, rfl, rfl⟩⟩
theorem te217 : TE.ok Tryz.prog 217 ⟨Tryz.t217.desc, Tryz.t217.size, Tryz.t217.bytes, Tryz.t217.zero.getD undef⟩ := ⟨Tryz.underlying217, Tryz.runUnderlying217, Tryz.sizeOf217, Tryz.zeroValue217, Tryz.isAgg217, fun w => ⟨_, Tryz.typeInfo217 w, rfl, rfl⟩, ⟨Tryz.t217, by kernel_rfl, rfl, rfl, rfl⟩⟩
theorem te218 : TE.ok Tryz.prog 218 ⟨Tryz.t218.desc, Tryz.t218.size, Tryz.t218.bytes, Tryz.t218.zero.getD undef⟩ := ⟨Tryz.underlying218, Tryz.runUnderlying218, Tryz.sizeOf218, Tryz.zeroValue218, Tryz.isAgg218, fun w => ⟨_, Tryz.typeInfo218 w, rfl, rfl⟩, ⟨Tryz.t218, by kernel_rfl, rfl, rfl, rfl⟩⟩
theorem te219 : TE.ok Tryz.prog 219 ⟨Tryz.t219.desc, Tryz.t219.size, Tryz.t219.bytes, Tryz.t219.zero.getD undef⟩ := ⟨Tryz.underlying219, Tryz.runUnderlying219, Tryz.sizeOf219, Tryz.zeroValue219, Tryz.isAgg219, fun w => ⟨_, Tryz.typeInfo219 w, rfl, rfl⟩, ⟨Tryz.t219, by kernel_rfl, rfl, rfl, rfl⟩⟩
theorem te220 : TE.ok Tryz.prog 220 ⟨Tryz.t220.desc, Tryz.t220.size, Tryz.t220.bytes, Tryz.t220.zero.getD undef⟩ := ⟨Tryz.underlying220, Tryz.runUnderlying220, Tryz.sizeOf220, Tryz.zeroValue220, Tryz.isAgg220, fun w => ⟨_, Tryz.typeInfo220 w, rfl, rfl⟩, ⟨Tryz.t220, by kernel_rfl, rfl, rfl, rfl⟩⟩
theorem te221 : TE.ok Tryz.prog 221 ⟨Tryz.t221.desc, Tryz.t221.size, Tryz.t221.bytes, Tryz.t221.zero.getD undef⟩ := ⟨Tryz.underlying221, Tryz.runUnderlying221, Tryz.sizeOf221, Tryz.zeroValue221, Tryz.isAgg221, fun w => ⟨_, Tryz.typeInfo221 w, rfl, rfl⟩, ⟨Tryz.t221, by kernel_rfl, rfl, rfl, rfl⟩⟩
theorem te222 : TE.ok Tryz.prog 222 ⟨Tryz.t222.desc, Tryz.t222.size, Tryz.t222.bytes, Tryz.t222.zero.getD undef⟩ := ⟨Tryz.underlying222, Tryz.runUnderlying222, Tryz.sizeOf222, Tryz.zeroValue222, Tryz.isAgg222, fun w => ⟨_, Tryz.typeInfo222 w, rfl, rfl⟩, ⟨Tryz.t222, by kernel_rfl, rfl, rfl, rfl⟩⟩
theorem te223 : TE.ok Tryz.prog 223 ⟨Tryz.t223.desc, Tryz.t223.size, Tryz.t223.bytes, Tryz.t223.zero.getD undef⟩ := ⟨Tryz.underlying223, Tryz.runUnderlying223, Tryz.sizeOf223, Tryz.zeroValue223, Tryz.isAgg223, fun w => ⟨_, Tryz.typeInfo223 w, rfl, rfl⟩, ⟨Tryz.t223, by kernel_rfl, rfl, rfl, rfl⟩⟩
theorem te224 : TE.ok Tryz.prog 224 ⟨Tryz.t224.desc, Tryz.t224.size, Tryz.t224.bytes, Tryz.t224.zero.getD undef⟩ := ⟨Tryz.underlying224, Tryz.runUnderlying224, Tryz.sizeOf224, Tryz.zeroValue224, Tryz.isAgg224, fun w => ⟨_, Tryz.typeInfo224 w, rfl, rfl⟩, ⟨Tryz.t224, by kernel_rfl, rfl, rfl, rfl⟩⟩
theorem te225 : TE.ok Tryz.prog 225 ⟨Tryz.t225.desc, Tryz.t225.size, Tryz.t225.bytes, Tryz.t225.zero.getD undef⟩ := ⟨Tryz.underlying225, Tryz.runUnderlying225, Tryz.sizeOf225, Tryz.zeroValue225, Tryz.isAgg225, fun w => ⟨_, Tryz.typeInfo225 w, rfl, rfl⟩, ⟨Tryz.t225, by kernel_rfl, rfl, rfl, rfl⟩⟩
theorem te226 : TE.ok Tryz.prog 226 ⟨Tryz.t226.desc, Tryz.t226.size, Tryz.t226.bytes, Tryz.t226.zero.getD undef⟩ := ⟨Tryz.underlying226, Tryz.runUnderlying226, Tryz.sizeOf226, Tryz.zeroValue226, Tryz.isAgg226, fun w => ⟨_, Tryz.typeInfo226 w, rfl, rfl⟩, ⟨Tryz.t226, by kernel_rfl, rfl, rfl, rfl⟩⟩
theorem te227 : TE.ok Tryz.prog 227 ⟨Tryz.t227.desc, Tryz.t227.size, Tryz.t227.bytes, Tryz.t227.zero.getD undef⟩ := ⟨Tryz.underlying227, Tryz.runUnderlying227, Tryz.sizeOf227, Tryz.zeroValue227, Tryz.isAgg227, fun w => ⟨_, Tryz.typeInfo227 w, rfl, rfl⟩, ⟨Tryz.t227, by kernel_rfl, rfl, rfl, rfl⟩⟩
theorem te228 : TE.ok Tryz.prog 228 ⟨Tryz.t228.desc, Tryz.t228.size, Tryz.t228.bytes, Tryz.t228.zero.getD undef⟩ := ⟨Tryz.underlying228, Tryz.runUnderlying228, Tryz.sizeOf228, Tryz.zeroValue228, Tryz.isAgg228, fun w => ⟨_, Tryz.typeInfo228 w, rfl, rfl⟩, ⟨Tryz.t228, by kernel_rfl, rfl, rfl, rfl⟩⟩
theorem te229 : TE.ok Tryz.prog 229 ⟨Tryz.t229.desc, Tryz.t229.size, Tryz.t229.bytes, Tryz.t229.zero.getD undef⟩ := ⟨Tryz.underlying229, Tryz.runUnderlying229, Tryz.sizeOf229, Tryz.zeroValue229, Tryz.isAgg229, fun w => ⟨_, Tryz.typeInfo229 w, rfl, rfl⟩, ⟨Tryz.t229, by kernel_rfl, rfl, rfl, rfl⟩⟩
theorem te230 : TE.ok Tryz.prog 230 ⟨Tryz.t230.desc, Tryz.t230.size, Tryz.t230.bytes, Tryz.t230.zero.getD undef⟩ := ⟨Tryz.underlying230, Tryz.runUnderlying230, Tryz.sizeOf230, Tryz.zeroValue230, Tryz.isAgg230, fun w => ⟨_, Tryz.typeInfo230 w, rfl, rfl⟩, ⟨Tryz.t230, by kernel_rfl, rfl, rfl, rfl⟩⟩
theorem te231 : TE.ok Tryz.prog 231 ⟨Tryz.t231.desc, Tryz.t231.size, Tryz.t231.bytes, Tryz.t231.zero.getD undef⟩ := ⟨Tryz.underlying231, Tryz.runUnderlying231, Tryz.sizeOf231, Tryz.zeroValue231, Tryz.isAgg231, fun w => ⟨_, Tryz.typeInfo231 w, rfl, rfl⟩, ⟨Tryz.t231, by kernel_rfl, rfl, rfl, rfl⟩⟩
theorem te232 : TE.ok Tryz.prog 232 ⟨Tryz.t232.desc, Tryz.t232.size, Tryz.t232.bytes, Tryz.t232.zero.getD undef⟩ := ⟨Tryz.underlying232, Tryz.runUnderlying232, Tryz.sizeOf232, Tryz.zeroValue232, Tryz.isAgg232, fun w => ⟨_, Tryz.typeInfo232 w, rfl, rfl⟩, ⟨Tryz.t232, by kernel_rfl, rfl, rfl, rfl⟩⟩
theorem te233 : TE.ok Tryz.prog 233 ⟨Tryz.t233.desc, Tryz.t233.size, Tryz.t233.bytes, Tryz.t233.zero.getD undef⟩ := ⟨Tryz.underlying233, Tryz.runUnderlying233, Tryz.sizeOf233, Tryz.zeroValue233, Tryz.isAgg233, fun w => ⟨_, Tryz.typeInfo233 w, rfl, rfl⟩, ⟨Tryz.t233, by kernel_rfl, rfl, rfl, rfl⟩⟩
theorem te234 : TE.ok Tryz.prog 234 ⟨Tryz.t234.desc, Tryz.t234.size, Tryz.t234.bytes, Tryz.t234.zero.getD undef⟩ := ⟨Tryz.underlying234, Tryz.runUnderlying234, Tryz.sizeOf234, Tryz.zeroValue234, Tryz.isAgg234, fun w => ⟨_, Tryz.typeInfo234 w, rfl, rfl⟩, ⟨Tryz.t234, by kernel_rfl, rfl, rfl, rfl⟩⟩
theorem te235 : TE.ok Tryz.prog 235 ⟨Tryz.t235.desc, Tryz.t235.size, Tryz.t235.bytes, Tryz.t235.zero.getD undef⟩ := ⟨Tryz.underlying235, Tryz.runUnderlying235, Tryz.sizeOf235, Tryz.zeroValue235, Tryz.isAgg235, fun w => ⟨_, Tryz.typeInfo235 w, rfl, rfl⟩, ⟨Tryz.t235, by kernel_rfl, rfl, rfl, rfl⟩⟩
theorem te236 : TE.ok Tryz.prog 236 ⟨Tryz.t236.desc, Tryz.t236.size, Tryz.t236.bytes, Tryz.t236.zero.getD undef⟩ := ⟨Tryz.underlying236, Tryz.runUnderlying236, Tryz.sizeOf236, Tryz.zeroValue236, Tryz.isAgg236, fun w => ⟨_, Tryz.typeInfo236 w, rfl, rfl⟩, ⟨Tryz.t236, by kernel_rfl, rfl, rfl, rfl⟩⟩
theorem te237 : TE.ok Tryz.prog 237 ⟨Tryz.t237.desc, Tryz.t237.size, Tryz.t237.bytes, Tryz.t237.zero.getD undef⟩ := ⟨Tryz.underlying237, Tryz.runUnderlying237, Tryz.sizeOf237, Tryz.zeroValue237, Tryz.isAgg237, fun w => ⟨_, Tryz.typeInfo237 w, rfl, rfl⟩, ⟨Tryz.t237, by kernel_rfl, rfl, rfl, rfl⟩⟩
theorem te238 : TE.ok Tryz.prog 238 ⟨Tryz.t238.desc, Tryz.t238.size, Tryz.t238.bytes, Tryz.t238.zero.getD undef⟩ := ⟨Tryz.underlying238, Tryz.runUnderlying238, Tryz.sizeOf238, Tryz.zeroValue238, Tryz.isAgg238, fun w => ⟨_, Tryz.typeInfo238 w, rfl, rfl⟩, ⟨Tryz.t238, by kernel_rfl, rfl, rfl, rfl⟩⟩
theorem te239 : TE.ok Tryz.prog 239 ⟨Tryz.t239.desc, Tryz.t239.size, Tryz.t239.bytes, Tryz.t239.zero.getD undef⟩ := ⟨Tryz.underlying239, Tryz.runUnderlying239, Tryz.sizeOf239, Tryz.zeroValue239, Tryz.isAgg239, fun w => ⟨_, Tryz.typeInfo239 w, rfl, rfl⟩, ⟨Tryz.t239, by kernel_rfl, rfl, rfl, rfl⟩⟩
theorem te240 : TE.ok Tryz.prog 240 ⟨Tryz.t240.desc, Tryz.t240.size, Tryz.t240.bytes, Tryz.t240.zero.getD undef⟩ := ⟨Tryz.underlying240, Tryz.runUnderlying240, Tryz.sizeOf240, Tryz.zeroValue240, Tryz.isAgg240, fun w => ⟨_, Tryz.typeInfo240 w, rfl, rfl⟩, ⟨Tryz.t240, by kernel_rfl, rfl, rfl, rfl⟩⟩
theorem te241 : TE.ok Tryz.prog 241 ⟨Tryz.t241.desc, Tryz.t241.size, Tryz.t241.bytes, Tryz.t241.zero.getD undef⟩ := ⟨Tryz.underlying241, Tryz.runUnderlying241, Tryz.sizeOf241, Tryz.zeroValue241, Tryz.isAgg241, fun w => ⟨_, Tryz.typeInfo241 w, rfl, rfl⟩, ⟨Tryz.t241, by kernel_rfl, rfl, rfl, rfl⟩⟩
theorem te242 : TE.ok Tryz.prog 242 ⟨Tryz.t242.desc, Tryz.t242.size, Tryz.t242.bytes, Tryz.t242.zero.getD undef⟩ := ⟨Tryz.underlying242, Tryz.runUnderlying242, Tryz.sizeOf242, Tryz.zeroValue242, Tryz.isAgg242, fun w => ⟨_, Tryz.typeInfo242 w, rfl, rfl⟩, ⟨Tryz.t242, by kernel_rfl, rfl, rfl, rfl⟩⟩
theorem te243 : TE.ok Tryz.prog 243 ⟨Tryz.t243.desc, Tryz.t243.size, Tryz.t243.bytes, Tryz.t243.zero.getD undef⟩ := ⟨Tryz.underlying243, Tryz.runUnderlying243, Tryz.sizeOf243, Tryz.zeroValue243, Tryz.isAgg243, fun w => ⟨_, Tryz.typeInfo243 w, rfl, rfl⟩, ⟨Tryz.t243, by kernel_rfl, rfl, rfl, rfl⟩⟩
theorem te244 : TE.ok Tryz.prog 244 ⟨Tryz.t244.desc, Tryz.t244.size, Tryz.t244.bytes, Tryz.t244.zero.getD undef⟩ := ⟨Tryz.underlying244, Tryz.runUnderlying244, Tryz.sizeOf244, Tryz.zeroValue244, Tryz.isAgg244, fun w => ⟨_, Tryz.typeInfo244 w, rfl, rfl⟩, ⟨Tryz.t244, by kernel_rfl, rfl, rfl, rfl⟩⟩
theorem te245 : TE.ok Tryz.prog 245 ⟨Tryz.t245.desc, Tryz.t245.size, Tryz.t245.bytes, Tryz.t245.zero.getD undef⟩ := ⟨Tryz.underlying245, Tryz.runUnderlying245, Tryz.sizeOf245, Tryz.zeroValue245, Tryz.isAgg245, fun w => ⟨_, Tryz.typeInfo245 w, rfl, rfl⟩, ⟨Tryz.t245, by kernel_rfl, rfl, rfl, rfl⟩⟩
theorem te246 : TE.ok Tryz.prog 246 ⟨Tryz.t246.desc, Tryz.t246.size, Tryz.t246.bytes, Tryz.t246.zero.getD undef⟩ := ⟨Tryz.underlying246, Tryz.runUnderlying246, Tryz.sizeOf246, Tryz.zeroValue246, Tryz.isAgg246, fun w => ⟨_, Tryz.typeInfo246 w, rfl, rfl⟩, ⟨Tryz.t246, by kernel_rfl, rfl, rfl, rfl⟩⟩
theorem te247 : TE.ok Tryz.prog 247 ⟨Tryz.t247.desc, Tryz.t247.size, Tryz.t247.bytes, Tryz.t247.zero.getD undef⟩ := ⟨Tryz.underlying247, Tryz.runUnderlying247, Tryz.sizeOf247, Tryz.zeroValue247, Tryz.isAgg247, fun w => ⟨_, Tryz.typeInfo247 w, rfl, rfl⟩, ⟨Tryz.t247, by kernel_rfl, rfl, rfl, rfl⟩⟩
theorem te248 : TE.ok Tryz.prog 248 ⟨Tryz.t248.desc, Tryz.t248.size, Tryz.t248.bytes, Tryz.t248.zero.getD undef⟩ := ⟨Tryz.underlying248, Tryz.runUnderlying248, Tryz.sizeOf248, Tryz.zeroValue248, Tryz.isAgg248, fun w => ⟨_, Tryz.typeInfo248 w, rfl, rfl⟩, ⟨Tryz.t248, by kernel_rfl, rfl, rfl, rfl⟩⟩
theorem te249 : TE.ok Tryz.prog 249 ⟨Tryz.t249.desc, Tryz.t249.size, Tryz.t249.bytes, Tryz.t249.zero.getD undef⟩ := ⟨Tryz.underlying249, Tryz.runUnderlying249, Tryz.sizeOf249, Tryz.zeroValue249, Tryz.isAgg249, fun w => ⟨_, Tryz.typeInfo249 w, rfl, rfl⟩, ⟨Tryz.t249, by kernel_rfl, rfl, rfl, rfl⟩⟩
theorem te250 : TE.ok Tryz.prog 250 ⟨Tryz.t249.desc, Tryz.t250.size, Tryz.t250.bytes, Tryz.t250.zero.getD undef⟩ := ⟨Tryz.underlying250, Tryz.runUnderlying250, Tryz.sizeOf250, Tryz.zeroValue250, Tryz.isAgg250, fun w => ⟨_, Tryz.typeInfo250 w, rfl, rfl⟩, ⟨Tryz.t250, by kernel_rfl, rfl, rfl, rfl⟩⟩
theorem te251 : TE.ok Tryz.prog 251 ⟨Tryz.t251.desc, Tryz.t251.size, Tryz.t251.bytes, Tryz.t251.zero.getD undef⟩ := ⟨Tryz.underlying251, Tryz.runUnderlying251, Tryz.sizeOf251, Tryz.zeroValue251, Tryz.isAgg251, fun w => ⟨_, Tryz.typeInfo251 w, rfl, rfl⟩, ⟨Tryz.t251, by kernel_rfl, rfl, rfl, rfl⟩⟩
theorem te252 : TE.ok Tryz.prog 252 ⟨Tryz.t252.desc, Tryz.t252.size, Tryz.t252.bytes, Tryz.t252.zero.getD undef⟩ := ⟨Tryz.underlying252, Tryz.runUnderlying252, Tryz.sizeOf252, Tryz.zeroValue252, Tryz.isAgg252, fun w => ⟨_, Tryz.typeInfo252 w, rfl, rfl⟩, ⟨Tryz.t252, by kernel_rfl, rfl, rfl, rfl⟩⟩
theorem te253 : TE.ok Tryz.prog 253 ⟨Tryz.t253.desc, Tryz.t253.size, Tryz.t253.bytes, Tryz.t253.zero.getD undef⟩ := ⟨Tryz.underlying253, Tryz.runUnderlying253, Tryz.sizeOf253, Tryz.zeroValue253, Tryz.isAgg253, fun w => ⟨_, Tryz.typeInfo253 w, rfl, rfl⟩, ⟨Tryz.t253, by kernel_rfl, rfl, rfl, rfl⟩⟩
theorem te254 : TE.ok Tryz.prog 254 ⟨Tryz.t254.desc, Tryz.t254.size, Tryz.t254.bytes, Tryz.t254.zero.getD undef⟩ := ⟨Tryz.underlying254, Tryz.runUnderlying254, Tryz.sizeOf254, Tryz.zeroValue254, Tryz.isAgg254, fun w => ⟨_, Tryz.typeInfo254 w, rfl, rfl⟩, ⟨Tryz.t254, by kernel_rfl, rfl, rfl, rfl⟩⟩
theorem te255 : TE.ok Tryz.prog 255 ⟨Tryz.t255.desc, Tryz.t255.size, Tryz.t255.bytes, Tryz.t255.zero.getD undef⟩ := ⟨Tryz.underlying255, Tryz.runUnderlying255, Tryz.sizeOf255, Tryz.zeroValue255, Tryz.isAgg255, fun w => ⟨_, Tryz.typeInfo255 w, rfl, rfl⟩, ⟨Tryz.t255, by kernel_rfl, rfl, rfl, rfl⟩⟩
theorem te256 : TE.ok Tryz.prog 256 ⟨Tryz.t255.desc, Tryz.t256.size, Tryz.t256.bytes, Tryz.t256.zero.getD undef⟩ := ⟨Tryz.underlying256, Tryz.runUnderlying256, Tryz.sizeOf256, Tryz.zeroValue256, Tryz.isAgg256, fun w => ⟨_, Tryz.typeInfo256 w, rfl, rfl⟩, ⟨Tryz.t256, by kernel_rfl, rfl, rfl, rfl⟩⟩
theorem te257 : TE.ok Tryz.prog 257 ⟨Tryz.t257.desc, Tryz.t257.size, Tryz.t257.bytes, Tryz.t257.zero.getD undef⟩ := ⟨Tryz.underlying257, Tryz.runUnderlying257, Tryz.sizeOf257, Tryz.zeroValue257, Tryz.isAgg257, fun w => ⟨_, Tryz.typeInfo257 w, rfl, rfl⟩, ⟨Tryz.t257, by kernel_rfl, rfl, rfl, rfl⟩⟩
theorem te258 : TE.ok Tryz.prog 258 ⟨Tryz.t258.desc, Tryz.t258.size, Tryz.t258.bytes, Tryz.t258.zero.getD undef⟩ := ⟨Tryz.underlying258, Tryz.runUnderlying258, Tryz.sizeOf258, Tryz.zeroValue258, Tryz.isAgg258, fun w => ⟨_, Tryz.typeInfo258 w, rfl, rfl⟩, ⟨Tryz.t258, by kernel_rfl, rfl, rfl, rfl⟩⟩
theorem te259 : TE.ok Tryz.prog 259 ⟨Tryz.t259.desc, Tryz.t259.size, Tryz.t259.bytes, Tryz.t259.zero.getD undef⟩ := ⟨Tryz.underlying259, Tryz.runUnderlying259, Tryz.sizeOf259, Tryz.zeroValue259, Tryz.isAgg259, fun w => ⟨_, Tryz.typeInfo259 w, rfl, rfl⟩, ⟨Tryz.t259, by kernel_rfl, rfl, rfl, rfl⟩⟩
theorem te260 : TE.ok Tryz.prog 260 ⟨Tryz.t260.desc, Tryz.t260.size, Tryz.t260.bytes, Tryz.t260.zero.getD undef⟩ := ⟨Tryz.underlying260, Tryz.runUnderlying260, Tryz.sizeOf260, Tryz.zeroValue260, Tryz.isAgg260, fun w => ⟨_, Tryz.typeInfo260 w, rfl, rfl⟩, ⟨Tryz.t260, by kernel_rfl, rfl, rfl, rfl⟩⟩
theorem te261 : TE.ok Tryz.prog 261 ⟨Tryz.t261.desc, Tryz.t261.size, Tryz.t261.bytes, Tryz.t261.zero.getD undef⟩ := ⟨Tryz.underlying261, Tryz.runUnderlying261, Tryz.sizeOf261, Tryz.zeroValue261, Tryz.isAgg261, fun w => ⟨_, Tryz.typeInfo261 w, rfl, rfl⟩, ⟨Tryz.t261, by kernel_rfl, rfl, rfl, rfl⟩⟩
theorem te262 : TE.ok Tryz.prog 262 ⟨Tryz.t262.desc, Tryz.t262.size, Tryz.t262.bytes, Tryz.t262.zero.getD undef⟩ := ⟨Tryz.underlying262, Tryz.runUnderlying262, Tryz.sizeOf262, Tryz.zeroValue262, Tryz.isAgg262, fun w => ⟨_, Tryz.typeInfo262 w, rfl, rfl⟩, ⟨Tryz.t262, by kernel_rfl, rfl, rfl, rfl⟩⟩
theorem te263 : TE.ok Tryz.prog 263 ⟨Tryz.t263.desc, Tryz.t263.size, Tryz.t263.bytes, Tryz.t263.zero.getD undef⟩ := ⟨Tryz.underlying263, Tryz.runUnderlying263, Tryz.sizeOf263, Tryz.zeroValue263, Tryz.isAgg263, fun w => ⟨_, Tryz.typeInfo263 w, rfl, rfl⟩, ⟨Tryz.t263, by kernel_rfl, rfl, rfl, rfl⟩⟩
theorem te264 : TE.ok Tryz.prog 264 ⟨Tryz.t264.desc, Tryz.t264.size, Tryz.t264.bytes, Tryz.t264.zero.getD undef⟩ := ⟨Tryz.underlying264, Tryz.runUnderlying264, Tryz.sizeOf264, Tryz.zeroValue264, Tryz.isAgg264, fun w => ⟨_, Tryz.typeInfo264 w, rfl, rfl⟩, ⟨Tryz.t264, by kernel_rfl, rfl, rfl, rfl⟩⟩
theorem te265 : TE.ok Tryz.prog 265 ⟨Tryz.t265.desc, Tryz.t265.size, Tryz.t265.bytes, Tryz.t265.zero.getD undef⟩ := ⟨Tryz.underlying265, Tryz.runUnderlying265, Tryz.sizeOf265, Tryz.zeroValue265, Tryz.isAgg265, fun w => ⟨_, Tryz.typeInfo265 w, rfl, rfl⟩, ⟨Tryz.t265, by kernel_rfl, rfl, rfl, rfl⟩⟩
theorem te266 : TE.ok Tryz.prog 266 ⟨Tryz.t266.desc, Tryz.t266.size, Tryz.t266.bytes, Tryz.t266.zero.getD undef⟩ := ⟨Tryz.underlying266, Tryz.runUnderlying266, Tryz.sizeOf266, Tryz.zeroValue266, Tryz.isAgg266, fun w => ⟨_, Tryz.typeInfo266 w, rfl, rfl⟩, ⟨Tryz.t266, by kernel_rfl, rfl, rfl, rfl⟩⟩
theorem te267 : TE.ok Tryz.prog 267 ⟨Tryz.t267.desc, Tryz.t267.size, Tryz.t267.bytes, Tryz.t267.zero.getD undef⟩ := ⟨Tryz.underlying267, Tryz.runUnderlying267, Tryz.sizeOf267, Tryz.zeroValue267, Tryz.isAgg267, fun w => ⟨_, Tryz.typeInfo267 w, rfl, rfl⟩, ⟨Tryz.t267, by kernel_rfl, rfl, rfl, rfl⟩⟩
theorem te268 : TE.ok Tryz.prog 268 ⟨Tryz.t268.desc, Tryz.t268.size, Tryz.t268.bytes, Tryz.t268.zero.getD undef⟩ := ⟨Tryz.underlying268, Tryz.runUnderlying268, Tryz.sizeOf268, Tryz.zeroValue268, Tryz.isAgg268, fun w => ⟨_, Tryz.typeInfo268 w, rfl, rfl⟩, ⟨Tryz.t268, by kernel_rfl, rfl, rfl, rfl⟩⟩
theorem te269 : TE.ok Tryz.prog 269 ⟨Tryz.t269.desc, Tryz.t269.size, Tryz.t269.bytes, Tryz.t269.zero.getD undef⟩ := ⟨Tryz.underlying269, Tryz.runUnderlying269, Tryz.sizeOf269, Tryz.zeroValue269, Tryz.isAgg269, fun w => ⟨_, Tryz.typeInfo269 w, rfl, rfl⟩, ⟨Tryz.t269, by kernel_rfl, rfl, rfl, rfl⟩⟩
theorem te270 : TE.ok Tryz.prog 270 ⟨Tryz.t270.desc, Tryz.t270.size, Tryz.t270.bytes, Tryz.t270.zero.getD undef⟩ := ⟨Tryz.underlying270, Tryz.runUnderlying270, Tryz.sizeOf270, Tryz.zeroValue270, Tryz.isAgg270, fun w => ⟨_, Tryz.typeInfo270 w, rfl, rfl⟩, ⟨Tryz.t270, by kernel_rfl, rfl, rfl, rfl⟩⟩
theorem te271 : TE.ok Tryz.prog 271 ⟨Tryz.t271.desc, Tryz.t271.size, Tryz.t271.bytes, Tryz.t271.zero.getD undef⟩ := ⟨Tryz.underlying271, Tryz.runUnderlying271, Tryz.sizeOf271, Tryz.zeroValue271, Tryz.isAgg271, fun w => ⟨_, Tryz.typeInfo271 w, rfl, rfl⟩, ⟨Tryz.t271, by kernel_rfl, rfl, rfl, rfl⟩⟩
theorem te272 : TE.ok Tryz.prog 272 ⟨Tryz.t272.desc, Tryz.t272.size, Tryz.t272.bytes, Tryz.t272.zero.getD undef⟩ := ⟨Tryz.underlying272, Tryz.runUnderlying272, Tryz.sizeOf272, Tryz.zeroValue272, Tryz.isAgg272, fun w => ⟨_, Tryz.typeInfo272 w, rfl, rfl⟩, ⟨Tryz.t272, by kernel_rfl, rfl, rfl, rfl⟩⟩
theorem te273 : TE.ok Tryz.prog 273 ⟨Tryz.t273.desc, Tryz.t273.size, Tryz.t273.bytes, Tryz.t273.zero.getD undef⟩ := ⟨Tryz.underlying273, Tryz.runUnderlying273, Tryz.sizeOf273, Tryz.zeroValue273, Tryz.isAgg273, fun w => ⟨_, Tryz.typeInfo273 w, rfl, rfl⟩, ⟨Tryz.t273, by kernel_rfl, rfl, rfl, rfl⟩⟩
theorem te274 : TE.ok Tryz.prog 274 ⟨Tryz.t274.desc, Tryz.t274.size, Tryz.t274.bytes, Tryz.t274.zero.getD undef⟩ := ⟨Tryz.underlying274, Tryz.runUnderlying274, Tryz.sizeOf274, Tryz.zeroValue274, Tryz.isAgg274, fun w => ⟨_, Tryz.typeInfo274 w, rfl, rfl⟩, ⟨Tryz.t274, by kernel_rfl, rfl, rfl, rfl⟩⟩
theorem te275 : TE.ok Tryz.prog 275 ⟨Tryz.t275.desc, Tryz.t275.size, Tryz.t275.bytes, Tryz.t275.zero.getD undef⟩ := ⟨Tryz.underlying275, Tryz.runUnderlying275, Tryz.sizeOf275, Tryz.zeroValue275, Tryz.isAgg275, fun w => ⟨_, Tryz.typeInfo275 w, rfl, rfl⟩, ⟨Tryz.t275, by kernel_rfl, rfl, rfl, rfl⟩⟩
theorem te276 : TE.ok Tryz.prog 276 ⟨Tryz.t275.desc, Tryz.t276.size, Tryz.t276.bytes, Tryz.t276.zero.getD undef⟩ := ⟨Tryz.underlying276, Tryz.runUnderlying276, Tryz.sizeOf276, Tryz.zeroValue276, Tryz.isAgg276, fun w => ⟨_, Tryz.typeInfo276 w, rfl, rfl⟩, ⟨Tryz.t276, by kernel_rfl, rfl, rfl, rfl⟩⟩
theorem te277 : TE.ok Tryz.prog 277 ⟨Tryz.t277.desc, Tryz.t277.size, Tryz.t277.bytes, Tryz.t277.zero.getD undef⟩ := ⟨Tryz.underlying277, Tryz.runUnderlying277, Tryz.sizeOf277, Tryz.zeroValue277, Tryz.isAgg277, fun w => ⟨_, Tryz.typeInfo277 w, rfl, rfl⟩, ⟨Tryz.t277, by kernel_rfl, rfl, rfl, rfl⟩⟩
theorem te278 : TE.ok Tryz.prog 278 ⟨Tryz.t278.desc, Tryz.t278.size, Tryz.t278.bytes, Tryz.t278.zero.getD undef⟩ := ⟨Tryz.underlying278, Tryz.runUnderlying278, Tryz.sizeOf278, Tryz.zeroValue278, Tryz.isAgg278, fun w => ⟨_, Tryz.typeInfo278 w, rfl, rfl⟩, ⟨Tryz.t278, by kernel_rfl, rfl, rfl, rfl⟩⟩
theorem te279 : TE.ok Tryz.prog 279 ⟨Tryz.t279.desc, Tryz.t279.size, Tryz.t279.bytes, Tryz.t279.zero.getD undef⟩ := ⟨Tryz.underlying279, Tryz.runUnderlying279, Tryz.sizeOf279, Tryz.zeroValue279, Tryz.isAgg279, fun w => ⟨_, Tryz.typeInfo279 w, rfl, rfl⟩, ⟨Tryz.t279, by kernel_rfl, rfl, rfl, rfl⟩⟩
theorem te280 : TE.ok Tryz.prog 280 ⟨Tryz.t280.desc, Tryz.t280.size, Tryz.t280.bytes, Tryz.t280.zero.getD undef⟩ := ⟨Tryz.underlying280, Tryz.runUnderlying280, Tryz.sizeOf280, Tryz.zeroValue280, Tryz.isAgg280, fun w => ⟨_, Tryz.typeInfo280 w, rfl, rfl⟩, ⟨Tryz.t280, by kernel_rfl, rfl, rfl, rfl⟩⟩
theorem te281 : TE.ok Tryz.prog 281 ⟨Tryz.t281.desc, Tryz.t281.size, Tryz.t281.bytes, Tryz.t281.zero.getD undef⟩ := ⟨Tryz.underlying281, Tryz.runUnderlying281, Tryz.sizeOf281, Tryz.zeroValue281, Tryz.isAgg281, fun w => ⟨_, Tryz.typeInfo281 w, rfl, rfl⟩, ⟨Tryz.t281, by kernel_rfl, rfl, rfl, rfl⟩⟩
theorem te282 : TE.ok Tryz.prog 282 ⟨Tryz.t282.desc, Tryz.t282.size, Tryz.t282.bytes, Tryz.t282.zero.getD undef⟩ := ⟨Tryz.underlying282, Tryz.runUnderlying282, Tryz.sizeOf282, Tryz.zeroValue282, Tryz.isAgg282, fun w => ⟨_, Tryz.typeInfo282 w, rfl, rfl⟩, ⟨Tryz.t282, by kernel_rfl, rfl, rfl, rfl⟩⟩
theorem te283 : TE.ok Tryz.prog 283 ⟨Tryz.t282.desc, Tryz.t283.size, Tryz.t283.bytes, Tryz.t283.zero.getD undef⟩ := ⟨Tryz.underlying283, Tryz.runUnderlying283, Tryz.sizeOf283, Tryz.zeroValue283, Tryz.isAgg283, fun w => ⟨_, Tryz.typeInfo283 w, rfl, rfl⟩, ⟨Tryz.t283, by kernel_rfl, rfl, rfl, rfl⟩⟩
theorem te284 : TE.ok Tryz.prog 284 ⟨Tryz.t284.desc, Tryz.t284.size, Tryz.t284.bytes, Tryz.t284.zero.getD undef⟩ := ⟨Tryz.underlying284, Tryz.runUnderlying284, Tryz.sizeOf284, Tryz.zeroValue284, Tryz.isAgg284, fun w => ⟨_, Tryz.typeInfo284 w, rfl, rfl⟩, ⟨Tryz.t284, by kernel_rfl, rfl, rfl, rfl⟩⟩
theorem te285 : TE.ok Tryz.prog 285 ⟨Tryz.t285.desc, Tryz.t285.size, Tryz.t285.bytes, Tryz.t285.zero.getD undef⟩ := ⟨Tryz.underlying285, Tryz.runUnderlying285, Tryz.sizeOf285, Tryz.zeroValue285, Tryz.isAgg285, fun w => ⟨_, Tryz.typeInfo285 w, rfl, rfl⟩, ⟨Tryz.t285, by kernel_rfl, rfl, rfl, rfl⟩⟩
theorem te286 : TE.ok Tryz.prog 286 ⟨Tryz.t3.desc, Tryz.t286.size, Tryz.t286.bytes, Tryz.t286.zero.getD undef⟩ := ⟨Tryz.underlying286, Tryz.runUnderlying286, Tryz.sizeOf286, Tryz.zeroValue286, Tryz.isAgg286, fun w => ⟨_, Tryz.typeInfo286 w, rfl, rfl⟩, ⟨Tryz.t286, by kernel_rfl, rfl, rfl, rfl⟩⟩
theorem te287 : TE.ok Tryz.prog 287 ⟨Tryz.t287.desc, Tryz.t287.size, Tryz.t287.bytes, Tryz.t287.zero.getD undef⟩ := ⟨Tryz.underlying287, Tryz.runUnderlying287, Tryz.sizeOf287, Tryz.zeroValue287, Tryz.isAgg287, fun w => ⟨_, Tryz.typeInfo287 w, rfl, rfl⟩, ⟨Tryz.t287, by kernel_rfl, rfl, rfl, rfl⟩⟩
theorem te288 : TE.ok Tryz.prog 288 ⟨Tryz.t288.desc, Tryz.t288.size, Tryz.t288.bytes, Tryz.t288.zero.getD undef⟩ := ⟨Tryz.underlying288, Tryz.runUnderlying288, Tryz.sizeOf288, Tryz.zeroValue288, Tryz.isAgg288, fun w => ⟨_, Tryz.typeInfo288 w, rfl, rfl⟩, ⟨Tryz.t288, by kernel_rfl, rfl, rfl, rfl⟩⟩
theorem te289 : TE.ok Tryz.prog 289 ⟨Tryz.t289.desc, Tryz.t289.size, Tryz.t289.bytes, Tryz.t289.zero.getD undef⟩ := ⟨Tryz.underlying289, Tryz.runUnderlying289, Tryz.sizeOf289, Tryz.zeroValue289, Tryz.isAgg289, fun w => ⟨_, Tryz.typeInfo289 w, rfl, rfl⟩, ⟨Tryz.t289, by kernel_rfl, rfl, rfl, rfl⟩⟩
theorem te290 : TE.ok Tryz.prog 290 ⟨Tryz.t290.desc, Tryz.t290.size, Tryz.t290.bytes, Tryz.t290.zero.getD undef⟩ := ⟨Tryz.underlying290, Tryz.runUnderlying290, Tryz.sizeOf290, Tryz.zeroValue290, Tryz.isAgg290, fun w => ⟨_, Tryz.typeInfo290 w, rfl, rfl⟩, ⟨Tryz.t290, by kernel_rfl, rfl, rfl, rfl⟩⟩
theorem te291 : TE.ok Tryz.prog 291 ⟨Tryz.t291.desc, Tryz.t291.size, Tryz.t291.bytes, Tryz.t291.zero.getD undef⟩ := ⟨Tryz.underlying291, Tryz.runUnderlying291, Tryz.sizeOf291, Tryz.zeroValue291, Tryz.isAgg291, fun w => ⟨_, Tryz.typeInfo291 w, rfl, rfl⟩, ⟨Tryz.t291, by kernel_rfl, rfl, rfl, rfl⟩⟩
theorem te292 : TE.ok Tryz.prog 292 ⟨Tryz.t292.desc, Tryz.t292.size, Tryz.t292.bytes, Tryz.t292.zero.getD undef⟩ := ⟨Tryz.underlying292, Tryz.runUnderlying292, Tryz.sizeOf292, Tryz.zeroValue292, Tryz.isAgg292, fun w => ⟨_, Tryz.typeInfo292 w, rfl, rfl⟩, ⟨Tryz.t292, by kernel_rfl, rfl, rfl, rfl⟩⟩
theorem te293 : TE.ok Tryz.prog 293 ⟨Tryz.t292.desc, Tryz.t293.size, Tryz.t293.bytes, Tryz.t293.zero.getD undef⟩ := ⟨Tryz.underlying293, Tryz.runUnderlying293, Tryz.sizeOf293, Tryz.zeroValue293, Tryz.isAgg293, fun w => ⟨_, Tryz.typeInfo293 w, rfl, rfl⟩, ⟨Tryz.t293, by kernel_rfl, rfl, rfl, rfl⟩⟩
theorem te294 : TE.ok Tryz.prog 294 ⟨Tryz.t294.desc, Tryz.t294.size, Tryz.t294.bytes, Tryz.t294.zero.getD undef⟩ := ⟨Tryz.underlying294, Tryz.runUnderlying294, Tryz.sizeOf294, Tryz.zeroValue294, Tryz.isAgg294, fun w => ⟨_, Tryz.typeInfo294 w, rfl, rfl⟩, ⟨Tryz.t294, by kernel_rfl, rfl, rfl, rfl⟩⟩
theorem te295 : TE.ok Tryz.prog 295 ⟨Tryz.t295.desc, Tryz.t295.size, Tryz.t295.bytes, Tryz.t295.zero.getD undef⟩ := ⟨Tryz.underlying295, Tryz.runUnderlying295, Tryz.sizeOf295, Tryz.zeroValue295, Tryz.isAgg295, fun w => ⟨_, Tryz.typeInfo295 w, rfl, rfl⟩, ⟨Tryz.t295, by kernel_rfl, rfl, rfl, rfl⟩⟩
theorem te296 : TE.ok Tryz.prog 296 ⟨Tryz.t296.desc, Tryz.t296.size, Tryz.t296.bytes, Tryz.t296.zero.getD undef⟩ := ⟨Tryz.underlying296, Tryz.runUnderlying296, Tryz.sizeOf296, Tryz.zeroValue296, Tryz.isAgg296, fun w => ⟨_, Tryz.typeInfo296 w, rfl, rfl⟩, ⟨Tryz.t296, by kernel_rfl, rfl, rfl, rfl⟩⟩
theorem te297 : TE.ok Tryz.prog 297 ⟨Tryz.t297.desc, Tryz.t297.size, Tryz.t297.bytes, Tryz.t297.zero.getD undef⟩ := ⟨Tryz.underlying297, Tryz.runUnderlying297, Tryz.sizeOf297, Tryz.zeroValue297, Tryz.isAgg297, fun w => ⟨_, Tryz.typeInfo297 w, rfl, rfl⟩, ⟨Tryz.t297, by kernel_rfl, rfl, rfl, rfl⟩⟩
theorem te298 : TE.ok Tryz.prog 298 ⟨Tryz.t298.desc, Tryz.t298.size, Tryz.t298.bytes, Tryz.t298.zero.getD undef⟩ := ⟨Tryz.underlying298, Tryz.runUnderlying298, Tryz.sizeOf298, Tryz.zeroValue298, Tryz.isAgg298, fun w => ⟨_, Tryz.typeInfo298 w, rfl, rfl⟩, ⟨Tryz.t298, by kernel_rfl, rfl, rfl, rfl⟩⟩
theorem te299 : TE.ok Tryz.prog 299 ⟨Tryz.t299.desc, Tryz.t299.size, Tryz.t299.bytes, Tryz.t299.zero.getD undef⟩ := ⟨Tryz.underlying299, Tryz.runUnderlying299, Tryz.sizeOf299, Tryz.zeroValue299, Tryz.isAgg299, fun w => ⟨_, Tryz.typeInfo299 w, rfl, rfl⟩, ⟨Tryz.t299, by kernel_rfl, rfl, rfl, rfl⟩⟩
theorem te300 : TE.ok Tryz.prog 300 ⟨Tryz.t300.desc, Tryz.t300.size, Tryz.t300.bytes, Tryz.t300.zero.getD undef⟩ := ⟨Tryz.underlying300, Tryz.runUnderlying300, Tryz.sizeOf300, Tryz.zeroValue300, Tryz.isAgg300, fun w => ⟨_, Tryz.typeInfo300 w, rfl, rfl⟩, ⟨Tryz.t300, by kernel_rfl, rfl, rfl, rfl⟩⟩
theorem te301 : TE.ok Tryz.prog 301 ⟨Tryz.t301.desc, Tryz.t301.size, Tryz.t301.bytes, Tryz.t301.zero.getD undef⟩ := ⟨Tryz.underlying301, Tryz.runUnderlying301, Tryz.sizeOf301, Tryz.zeroValue301, Tryz.isAgg301, fun w => ⟨_, Tryz.typeInfo301 w, rfl, rfl⟩, ⟨Tryz.t301, by kernel_rfl, rfl, rfl, rfl⟩⟩
theorem te302 : TE.ok Tryz.prog 302 ⟨Tryz.t302.desc, Tryz.t302.size, Tryz.t302.bytes, Tryz.t302.zero.getD undef⟩ := ⟨Tryz.underlying302, Tryz.runUnderlying302, Tryz.sizeOf302, Tryz.zeroValue302, Tryz.isAgg302, fun w => ⟨_, Tryz.typeInfo302 w, rfl, rfl⟩, ⟨Tryz.t302, by kernel_rfl, rfl, rfl, rfl⟩⟩
theorem te303 : TE.ok Tryz.prog 303 ⟨Tryz.t303.desc, Tryz.t303.size, Tryz.t303.bytes, Tryz.t303.zero.getD undef⟩ := ⟨Tryz.underlying303, Tryz.runUnderlying303, Tryz.sizeOf303, Tryz.zeroValue303, Tryz.isAgg303, fun w => ⟨_, Tryz.typeInfo303 w, rfl, rfl⟩, ⟨Tryz.t303, by kernel_rfl, rfl, rfl, rfl⟩⟩
theorem te304 : TE.ok Tryz.prog 304 ⟨Tryz.t304.desc, Tryz.t304.size, Tryz.t304.bytes, Tryz.t304.zero.getD undef⟩ := ⟨Tryz.underlying304, Tryz.runUnderlying304, Tryz.sizeOf304, Tryz.zeroValue304, Tryz.isAgg304, fun w => ⟨_, Tryz.typeInfo304 w, rfl, rfl⟩, ⟨Tryz.t304, by kernel_rfl, rfl, rfl, rfl⟩⟩
theorem te305 : TE.ok Tryz.prog 305 ⟨Tryz.t305.desc, Tryz.t305.size, Tryz.t305.bytes, Tryz.t305.zero.getD undef⟩ := ⟨Tryz.underlying305, Tryz.runUnderlying305, Tryz.sizeOf305, Tryz.zeroValue305, Tryz.isAgg305, fun w => ⟨_, Tryz.typeInfo305 w, rfl, rfl⟩, ⟨Tryz.t305, by kernel_rfl, rfl, rfl, rfl⟩⟩
theorem te306 : TE.ok Tryz.prog 306 ⟨Tryz.t306.desc, Tryz.t306.size, Tryz.t306.bytes, Tryz.t306.zero.getD undef⟩ := ⟨Tryz.underlying306, Tryz.runUnderlying306, Tryz.sizeOf306, Tryz.zeroValue306, Tryz.isAgg306, fun w => ⟨_, Tryz.typeInfo306 w, rfl, rfl⟩, ⟨Tryz.t306, by kernel_rfl, rfl, rfl, rfl⟩⟩
theorem te307 : TE.ok Tryz.prog 307 ⟨Tryz.t307.desc, Tryz.t307.size, Tryz.t307.bytes, Tryz.t307.zero.getD undef⟩ := ⟨Tryz.underlying307, Tryz.runUnderlying307, Tryz.sizeOf307, Tryz.zeroValue307, Tryz.isAgg307, fun w => ⟨_, Tryz.typeInfo307 w, rfl, rfl⟩, ⟨Tryz.t307, by kernel_rfl, rfl, rfl, rfl⟩⟩
theorem te308 : TE.ok Tryz.prog 308 ⟨Tryz.t308.desc, Tryz.t308.size, Tryz.t308.bytes, Tryz.t308.zero.getD undef⟩ := ⟨Tryz.underlying308, Tryz.runUnderlying308, Tryz.sizeOf308, Tryz.zeroValue308, Tryz.isAgg308, fun w => ⟨_, Tryz.typeInfo308 w, rfl, rfl⟩, ⟨Tryz.t308, by kernel_rfl, rfl, rfl, rfl⟩⟩
theorem te309 : TE.ok Tryz.prog 309 ⟨Tryz.t309.desc, Tryz.t309.size, Tryz.t309.bytes, Tryz.t309.zero.getD undef⟩ := ⟨Tryz.underlying309, Tryz.runUnderlying309, Tryz.sizeOf309, Tryz.zeroValue309, Tryz.isAgg309, fun w => ⟨_, Tryz.typeInfo309 w, rfl, rfl⟩, ⟨Tryz.t309, by kernel_rfl, rfl, rfl, rfl⟩⟩
theorem te310 : TE.ok Tryz.prog 310 ⟨Tryz.t310.desc, Tryz.t310.size, Tryz.t310.bytes, Tryz.t310.zero.getD undef⟩ := ⟨Tryz.underlying310, Tryz.runUnderlying310, Tryz.sizeOf310, Tryz.zeroValue310, Tryz.isAgg310, fun w => ⟨_, Tryz.typeInfo310 w, rfl, rfl⟩, ⟨Tryz.t310, by kernel_rfl, rfl, rfl, rfl⟩⟩
theorem te311 : TE.ok Tryz.prog 311 ⟨Tryz.t311.desc, Tryz.t311.size, Tryz.t311.bytes, Tryz.t311.zero.getD undef⟩ := ⟨Tryz.underlying311, Tryz.runUnderlying311, Tryz.sizeOf311, Tryz.zeroValue311, Tryz.isAgg311, fun w => ⟨_, Tryz.typeInfo311 w, rfl, rfl⟩, ⟨Tryz.t311, by kernel_rfl, rfl, rfl, rfl⟩⟩
theorem te312 : TE.ok Tryz.prog 312 ⟨Tryz.t312.desc, Tryz.t312.size, Tryz.t312.bytes, Tryz.t312.zero.getD undef⟩ := ⟨Tryz.underlying312, Tryz.runUnderlying312, Tryz.sizeOf312, Tryz.zeroValue312, Tryz.isAgg312, fun w => ⟨_, Tryz.typeInfo312 w, rfl, rfl⟩, ⟨Tryz.t312, by kernel_rfl, rfl, rfl, rfl⟩⟩
theorem te313 : TE.ok Tryz.prog 313 ⟨Tryz.t313.desc, Tryz.t313.size, Tryz.t313.bytes, Tryz.t313.zero.getD undef⟩ := ⟨Tryz.underlying313, Tryz.runUnderlying313, Tryz.sizeOf313, Tryz.zeroValue313, Tryz.isAgg313, fun w => ⟨_, Tryz.typeInfo313 w, rfl, rfl⟩, ⟨Tryz.t313, by kernel_rfl, rfl, rfl, rfl⟩⟩
theorem te314 : TE.ok Tryz.prog 314 ⟨Tryz.t314.desc, Tryz.t314.size, Tryz.t314.bytes, Tryz.t314.zero.getD undef⟩ := ⟨Tryz.underlying314, Tryz.runUnderlying314, Tryz.sizeOf314, Tryz.zeroValue314, Tryz.isAgg314, fun w => ⟨_, Tryz.typeInfo314 w, rfl, rfl⟩, ⟨Tryz.t314, by kernel_rfl, rfl, rfl, rfl⟩⟩
theorem te315 : TE.ok Tryz.prog 315 ⟨Tryz.t315.desc, Tryz.t315.size, Tryz.t315.bytes, Tryz.t315.zero.getD undef⟩ := ⟨Tryz.underlying315, Tryz.runUnderlying315, Tryz.sizeOf315, Tryz.zeroValue315, Tryz.isAgg315, fun w => ⟨_, Tryz.typeInfo315 w, rfl, rfl⟩, ⟨Tryz.t315, by kernel_rfl, rfl, rfl, rfl⟩⟩
theorem te316 : TE.ok Tryz.prog 316 ⟨Tryz.t316.desc, Tryz.t316.size, Tryz.t316.bytes, Tryz.t316.zero.getD undef⟩ := ⟨Tryz.underlying316, Tryz.runUnderlying316, Tryz.sizeOf316, Tryz.zeroValue316, Tryz.isAgg316, fun w => ⟨_, Tryz.typeInfo316 w, rfl, rfl⟩, ⟨Tryz.t316, by kernel_rfl, rfl, rfl, rfl⟩⟩
theorem te317 : TE.ok Tryz.prog 317 ⟨Tryz.t317.desc, Tryz.t317.size, Tryz.t317.bytes, Tryz.t317.zero.getD undef⟩ := ⟨Tryz.underlying317, Tryz.runUnderlying317, Tryz.sizeOf317, Tryz.zeroValue317, Tryz.isAgg317, fun w => ⟨_, Tryz.typeInfo317 w, rfl, rfl⟩, ⟨Tryz.t317, by kernel_rfl, rfl, rfl, rfl⟩⟩
theorem te318 : TE.ok Tryz.prog 318 ⟨Tryz.t317.desc, Tryz.t318.size, Tryz.t318.bytes, Tryz.t318.zero.getD undef⟩ := ⟨Tryz.underlying318, Tryz.runUnderlying318, Tryz.sizeOf318, Tryz.zeroValue318, Tryz.isAgg318, fun w => ⟨_, Tryz.typeInfo318 w, rfl, rfl⟩, ⟨Tryz.t318, by kernel_rfl, rfl, rfl, rfl⟩⟩
theorem te319 : TE.ok Tryz.prog 319 ⟨Tryz.t319.desc, Tryz.t319.size, Tryz.t319.bytes, Tryz.t319.zero.getD undef⟩ := ⟨Tryz.underlying319, Tryz.runUnderlying319, Tryz.sizeOf319, Tryz.zeroValue319, Tryz.isAgg319, fun w => ⟨_, Tryz.typeInfo319 w, rfl, rfl⟩, ⟨Tryz.t319, by kernel_rfl, rfl, rfl, rfl⟩⟩
theorem te320 : TE.ok Tryz.prog 320 ⟨Tryz.t320.desc, Tryz.t320.size, Tryz.t320.bytes, Tryz.t320.zero.getD undef⟩ := ⟨Tryz.underlying320, Tryz.runUnderlying320, Tryz.sizeOf320, Tryz.zeroValue320, Tryz.isAgg320, fun w => ⟨_, Tryz.typeInfo320 w, rfl, rfl⟩, ⟨Tryz.t320, by kernel_rfl, rfl, rfl, rfl⟩⟩
theorem te321 : TE.ok Tryz.prog 321 ⟨Tryz.t321.desc, Tryz.t321.size, Tryz.t321.bytes, Tryz.t321.zero.getD undef⟩ := ⟨Tryz.underlying321, Tryz.runUnderlying321, Tryz.sizeOf321, Tryz.zeroValue321, Tryz.isAgg321, fun w => ⟨_, Tryz.typeInfo321 w, rfl, rfl⟩, ⟨Tryz.t321, by kernel_rfl, rfl, rfl, rfl⟩⟩
theorem te322 : TE.ok Tryz.prog 322 ⟨Tryz.t322.desc, Tryz.t322.size, Tryz.t322.bytes, Tryz.t322.zero.getD undef⟩ := ⟨Tryz.underlying322, Tryz.runUnderlying322, Tryz.sizeOf322, Tryz.zeroValue322, Tryz.isAgg322, fun w => ⟨_, Tryz.typeInfo322 w, rfl, rfl⟩, ⟨Tryz.t322, by kernel_rfl, rfl, rfl, rfl⟩⟩
theorem te323 : TE.ok Tryz.prog 323 ⟨Tryz.t323.desc, Tryz.t323.size, Tryz.t323.bytes, Tryz.t323.zero.getD undef⟩ := ⟨Tryz.underlying323, Tryz.runUnderlying323, Tryz.sizeOf323, Tryz.zeroValue323, Tryz.isAgg323, fun w => ⟨_, Tryz.typeInfo323 w, rfl, rfl⟩, ⟨Tryz.t323, by kernel_rfl, rfl, rfl, rfl⟩⟩
theorem te324 : TE.ok Tryz.prog 324 ⟨Tryz.t324.desc, Tryz.t324.size, Tryz.t324.bytes, Tryz.t324.zero.getD undef⟩ := ⟨Tryz.underlying324, Tryz.runUnderlying324, Tryz.sizeOf324, Tryz.zeroValue324, Tryz.isAgg324, fun w => ⟨_, Tryz.typeInfo324 w, rfl, rfl⟩, ⟨Tryz.t324, by kernel_rfl, rfl, rfl, rfl⟩⟩
theorem te325 : TE.ok Tryz.prog 325 ⟨Tryz.t325.desc, Tryz.t325.size, Tryz.t325.bytes, Tryz.t325.zero.getD undef⟩ := ⟨Tryz.underlying325, Tryz.runUnderlying325, Tryz.sizeOf325, Tryz.zeroValue325, Tryz.isAgg325, fun w => ⟨_, Tryz.typeInfo325 w, rfl, rfl⟩, ⟨Tryz.t325, by kernel_rfl, rfl, rfl, rfl⟩⟩
theorem te326 : TE.ok Tryz.prog 326 ⟨Tryz.t326.desc, Tryz.t326.size, Tryz.t326.bytes, Tryz.t326.zero.getD undef⟩ := ⟨Tryz.underlying326, Tryz.runUnderlying326, Tryz.sizeOf326, Tryz.zeroValue326, Tryz.isAgg326, fun w => ⟨_, Tryz.typeInfo326 w, rfl, rfl⟩, ⟨Tryz.t326, by kernel_rfl, rfl, rfl, rfl⟩⟩
theorem te327 : TE.ok Tryz.prog 327 ⟨Tryz.t327.desc, Tryz.t327.size, Tryz.t327.bytes, Tryz.t327.zero.getD undef⟩ := ⟨Tryz.underlying327, Tryz.runUnderlying327, Tryz.sizeOf327, Tryz.zeroValue327, Tryz.isAgg327, fun w => ⟨_, Tryz.typeInfo327 w, rfl, rfl⟩, ⟨Tryz.t327, by kernel_rfl, rfl, rfl, rfl⟩⟩
theorem te328 : TE.ok Tryz.prog 328 ⟨Tryz.t328.desc, Tryz.t328.size, Tryz.t328.bytes, Tryz.t328.zero.getD undef⟩ := ⟨Tryz.underlying328, Tryz.runUnderlying328, Tryz.sizeOf328, Tryz.zeroValue328, Tryz.isAgg328, fun w => ⟨_, Tryz.typeInfo328 w, rfl, rfl⟩, ⟨Tryz.t328, by kernel_rfl, rfl, rfl, rfl⟩⟩
theorem te329 : TE.ok Tryz.prog 329 ⟨Tryz.t329.desc, Tryz.t329.size, Tryz.t329.bytes, Tryz.t329.zero.getD undef⟩ := ⟨Tryz.underlying329, Tryz.runUnderlying329, Tryz.sizeOf329, Tryz.zeroValue329, Tryz.isAgg329, fun w => ⟨_, Tryz.typeInfo329 w, rfl, rfl⟩, ⟨Tryz.t329, by kernel_rfl, rfl, rfl, rfl⟩⟩
theorem te330 : TE.ok Tryz.prog 330 ⟨Tryz.t330.desc, Tryz.t330.size, Tryz.t330.bytes, Tryz.t330.zero.getD undef⟩ := ⟨Tryz.underlying330, Tryz.runUnderlying330, Tryz.sizeOf330, Tryz.zeroValue330, Tryz.isAgg330, fun w => ⟨_, Tryz.typeInfo330 w, rfl, rfl⟩, ⟨Tryz.t330, by kernel_rfl, rfl, rfl, rfl⟩⟩
theorem te331 : TE.ok Tryz.prog 331 ⟨Tryz.t331.desc, Tryz.t331.size, Tryz.t331.bytes, Tryz.t331.zero.getD undef⟩ := ⟨Tryz.underlying331, Tryz.runUnderlying331, Tryz.sizeOf331, Tryz.zeroValue331, Tryz.isAgg331, fun w => ⟨_, Tryz.typeInfo331 w, rfl, rfl⟩, ⟨Tryz.t331, by kernel_rfl, rfl, rfl, rfl⟩⟩
theorem te332 : TE.ok Tryz.prog 332 ⟨Tryz.t332.desc, Tryz.t332.size, Tryz.t332.bytes, Tryz.t332.zero.getD undef⟩ := ⟨Tryz.underlying332, Tryz.runUnderlying332, Tryz.sizeOf332, Tryz.zeroValue332, Tryz.isAgg332, fun w => ⟨_, Tryz.typeInfo332 w, rfl, rfl⟩, ⟨Tryz.t332, by kernel_rfl, rfl, rfl, rfl⟩⟩
theorem te333 : TE.ok Tryz.prog 333 ⟨Tryz.t333.desc, Tryz.t333.size, Tryz.t333.bytes, Tryz.t333.zero.getD undef⟩ := ⟨Tryz.underlying333, Tryz.runUnderlying333, Tryz.sizeOf333, Tryz.zeroValue333, Tryz.isAgg333, fun w => ⟨_, Tryz.typeInfo333 w, rfl, rfl⟩, ⟨Tryz.t333, by kernel_rfl, rfl, rfl, rfl⟩⟩
theorem te334 : TE.ok Tryz.prog 334 ⟨Tryz.t334.desc, Tryz.t334.size, Tryz.t334.bytes, Tryz.t334.zero.getD undef⟩ := ⟨Tryz.underlying334, Tryz.runUnderlying334, Tryz.sizeOf334, Tryz.zeroValue334, Tryz.isAgg334, fun w => ⟨_, Tryz.typeInfo334 w, rfl, rfl⟩, ⟨Tryz.t334, by kernel_rfl, rfl, rfl, rfl⟩⟩
theorem te335 : TE.ok Tryz.prog 335 ⟨Tryz.t335.desc, Tryz.t335.size, Tryz.t335.bytes, Tryz.t335.zero.getD undef⟩ := ⟨Tryz.underlying335, Tryz.runUnderlying335, Tryz.sizeOf335, Tryz.zeroValue335, Tryz.isAgg335, fun w => ⟨_, Tryz.typeInfo335 w, rfl, rfl⟩, ⟨Tryz.t335, by kernel_rfl, rfl, rfl, rfl⟩⟩
theorem te336 : TE.ok Tryz.prog 336 ⟨Tryz.t336.desc, Tryz.t336.size, Tryz.t336.bytes, Tryz.t336.zero.getD undef⟩ := ⟨Tryz.underlying336, Tryz.runUnderlying336, Tryz.sizeOf336, Tryz.zeroValue336, Tryz.isAgg336, fun w => ⟨_, Tryz.typeInfo336 w, rfl, rfl⟩, ⟨Tryz.t336, by kernel_rfl, rfl, rfl, rfl⟩⟩
theorem te337 : TE.ok Tryz.prog 337 ⟨Tryz.t337.desc, Tryz.t337.size, Tryz.t337.bytes, Tryz.t337.zero.getD undef⟩ := ⟨Tryz.underlying337, Tryz.runUnderlying337, Tryz.sizeOf337, Tryz.zeroValue337, Tryz.isAgg337, fun w => ⟨_, Tryz.typeInfo337 w, rfl, rfl⟩, ⟨Tryz.t337, by kernel_rfl, rfl, rfl, rfl⟩⟩
theorem te338 : TE.ok Tryz.prog 338 ⟨Tryz.t338.desc, Tryz.t338.size, Tryz.t338.bytes, Tryz.t338.zero.getD undef⟩ := ⟨Tryz.underlying338, Tryz.runUnderlying338, Tryz.sizeOf338, Tryz.zeroValue338, Tryz.isAgg338, fun w => ⟨_, Tryz.typeInfo338 w, rfl, rfl⟩, ⟨Tryz.t338, by kernel_rfl, rfl, rfl, rfl⟩⟩
theorem te339 : TE.ok Tryz.prog 339 ⟨Tryz.t339.desc, Tryz.t339.size, Tryz.t339.bytes, Tryz.t339.zero.getD undef⟩ := ⟨Tryz.underlying339, Tryz.runUnderlying339, Tryz.sizeOf339, Tryz.zeroValue339, Tryz.isAgg339, fun w => ⟨_, Tryz.typeInfo339 w, rfl, rfl⟩, ⟨Tryz.t339, by kernel_rfl, rfl, rfl, rfl⟩⟩
theorem te340 : TE.ok Tryz.prog 340 ⟨Tryz.t340.desc, Tryz.t340.size, Tryz.t340.bytes, Tryz.t340.zero.getD undef⟩ := ⟨Tryz.underlying340, Tryz.runUnderlying340, Tryz.sizeOf340, Tryz.zeroValue340, Tryz.isAgg340, fun w => ⟨_, Tryz.typeInfo340 w, rfl, rfl⟩, ⟨Tryz.t340, by kernel_rfl, rfl, rfl, rfl⟩⟩
theorem te341 : TE.ok Tryz.prog 341 ⟨Tryz.t341.desc, Tryz.t341.size, Tryz.t341.bytes, Tryz.t341.zero.getD undef⟩ := ⟨Tryz.underlying341, Tryz.runUnderlying341, Tryz.sizeOf341, Tryz.zeroValue341, Tryz.isAgg341, fun w => ⟨_, Tryz.typeInfo341 w, rfl, rfl⟩, ⟨Tryz.t341, by kernel_rfl, rfl, rfl, rfl⟩⟩
theorem te342 : TE.ok Tryz.prog 342 ⟨Tryz.t342.desc, Tryz.t342.size, Tryz.t342.bytes, Tryz.t342.zero.getD undef⟩ := ⟨Tryz.underlying342, Tryz.runUnderlying342, Tryz.sizeOf342, Tryz.zeroValue342, Tryz.isAgg342, fun w => ⟨_, Tryz.typeInfo342 w, rfl, rfl⟩, ⟨Tryz.t342, by kernel_rfl, rfl, rfl, rfl⟩⟩
theorem te343 : TE.ok Tryz.prog 343 ⟨Tryz.t343.desc, Tryz.t343.size, Tryz.t343.bytes, Tryz.t343.zero.getD undef⟩ := ⟨Tryz.underlying343, Tryz.runUnderlying343, Tryz.sizeOf343, Tryz.zeroValue343, Tryz.isAgg343, fun w => ⟨_, Tryz.typeInfo343 w, rfl, rfl⟩, ⟨Tryz.t343, by kernel_rfl, rfl, rfl, rfl⟩⟩
theorem te344 : TE.ok Tryz.prog 344 ⟨Tryz.t3.desc, Tryz.t344.size, Tryz.t344.bytes, Tryz.t344.zero.getD undef⟩ := ⟨Tryz.underlying344, Tryz.runUnderlying344, Tryz.sizeOf344, Tryz.zeroValue344, Tryz.isAgg344, fun w => ⟨_, Tryz.typeInfo344 w, rfl, rfl⟩, ⟨Tryz.t344, by kernel_rfl, rfl, rfl, rfl⟩⟩
theorem te345 : TE.ok Tryz.prog 345 ⟨Tryz.t345.desc, Tryz.t345.size, Tryz.t345.bytes, Tryz.t345.zero.getD undef⟩ := ⟨Tryz.underlying345, Tryz.runUnderlying345, Tryz.sizeOf345, Tryz.zeroValue345, Tryz.isAgg345, fun w => ⟨_, Tryz.typeInfo345 w, rfl, rfl⟩, ⟨Tryz.t345, by kernel_rfl, rfl, rfl, rfl⟩⟩
theorem te346 : TE.ok Tryz.prog 346 ⟨Tryz.t346.desc, Tryz.t346.size, Tryz.t346.bytes, Tryz.t346.zero.getD undef⟩ := ⟨Tryz.underlying346, Tryz.runUnderlying346, Tryz.sizeOf346, Tryz.zeroValue346, Tryz.isAgg346, fun w => ⟨_, Tryz.typeInfo346 w, rfl, rfl⟩, ⟨Tryz.t346, by kernel_rfl, rfl, rfl, rfl⟩⟩
theorem te347 : TE.ok Tryz.prog 347 ⟨Tryz.t347.desc, Tryz.t347.size, Tryz.t347.bytes, Tryz.t347.zero.getD undef⟩ := ⟨Tryz.underlying347, Tryz.runUnderlying347, Tryz.sizeOf347, Tryz.zeroValue347, Tryz.isAgg347, fun w => ⟨_, Tryz.typeInfo347 w, rfl, rfl⟩, ⟨Tryz.t347, by kernel_rfl, rfl, rfl, rfl⟩⟩
theorem te348 : TE.ok Tryz.prog 348 ⟨Tryz.t348.desc, Tryz.t348.size, Tryz.t348.bytes, Tryz.t348.zero.getD undef⟩ := ⟨Tryz.underlying348, Tryz.runUnderlying348, Tryz.sizeOf348, Tryz.zeroValue348, Tryz.isAgg348, fun w => ⟨_, Tryz.typeInfo348 w, rfl, rfl⟩, ⟨Tryz.t348, by kernel_rfl, rfl, rfl, rfl⟩⟩
theorem te349 : TE.ok Tryz.prog 349 ⟨Tryz.t349.desc, Tryz.t349.size, Tryz.t349.bytes, Tryz.t349.zero.getD undef⟩ := ⟨Tryz.underlying349, Tryz.runUnderlying349, Tryz.sizeOf349, Tryz.zeroValue349, Tryz.isAgg349, fun w => ⟨_, Tryz.typeInfo349 w, rfl, rfl⟩, ⟨Tryz.t349, by kernel_rfl, rfl, rfl, rfl⟩⟩
theorem te350 : TE.ok Tryz.prog 350 ⟨Tryz.t350.desc, Tryz.t350.size, Tryz.t350.bytes, Tryz.t350.zero.getD undef⟩ := ⟨Tryz.underlying350, Tryz.runUnderlying350, Tryz.sizeOf350, Tryz.zeroValue350, Tryz.isAgg350, fun w => ⟨_, Tryz.typeInfo350 w, rfl, rfl⟩, ⟨Tryz.t350, by kernel_rfl, rfl, rfl, rfl⟩⟩
theorem te351 : TE.ok Tryz.prog 351 ⟨Tryz.t351.desc, Tryz.t351.size, Tryz.t351.bytes, Tryz.t351.zero.getD undef⟩ := ⟨Tryz.underlying351, Tryz.runUnderlying351, Tryz.sizeOf351, Tryz.zeroValue351, Tryz.isAgg351, fun w => ⟨_, Tryz.typeInfo351 w, rfl, rfl⟩, ⟨Tryz.t351, by kernel_rfl, rfl, rfl, rfl⟩⟩
theorem te352 : TE.ok Tryz.prog 352 ⟨Tryz.t352.desc, Tryz.t352.size, Tryz.t352.bytes, Tryz.t352.zero.getD undef⟩ := ⟨Tryz.underlying352, Tryz.runUnderlying352, Tryz.sizeOf352, Tryz.zeroValue352, Tryz.isAgg352, fun w => ⟨_, Tryz.typeInfo352 w, rfl, rfl⟩, ⟨Tryz.t352, by kernel_rfl, rfl, rfl, rfl⟩⟩
theorem te353 : TE.ok Tryz.prog 353 ⟨Tryz.t353.desc, Tryz.t353.size, Tryz.t353.bytes, Tryz.t353.zero.getD undef⟩ := ⟨Tryz.underlying353, Tryz.runUnderlying353, Tryz.sizeOf353, Tryz.zeroValue353, Tryz.isAgg353, fun w => ⟨_, Tryz.typeInfo353 w, rfl, rfl⟩, ⟨Tryz.t353, by kernel_rfl, rfl, rfl, rfl⟩⟩
theorem te354 : TE.ok Tryz.prog 354 ⟨Tryz.t354.desc, Tryz.t354.size, Tryz.t354.bytes, Tryz.t354.zero.getD undef⟩ := ⟨Tryz.underlying354, Tryz.runUnderlying354, Tryz.sizeOf354, Tryz.zeroValue354, Tryz.isAgg354, fun w => ⟨_, Tryz.typeInfo354 w, rfl, rfl⟩, ⟨Tryz.t354, by kernel_rfl, rfl, rfl, rfl⟩⟩
theorem te355 : TE.ok Tryz.prog 355 ⟨Tryz.t223.desc, Tryz.t355.size, Tryz.t355.bytes, Tryz.t355.zero.getD undef⟩ := ⟨Tryz.underlying355, Tryz.runUnderlying355, Tryz.sizeOf355, Tryz.zeroValue355, Tryz.isAgg355, fun w => ⟨_, Tryz.typeInfo355 w, rfl, rfl⟩, ⟨Tryz.t355, by kernel_rfl, rfl, rfl, rfl⟩⟩
theorem te356 : TE.ok Tryz.prog 356 ⟨Tryz.t356.desc, Tryz.t356.size, Tryz.t356.bytes, Tryz.t356.zero.getD undef⟩ := ⟨Tryz.underlying356, Tryz.runUnderlying356, Tryz.sizeOf356, Tryz.zeroValue356, Tryz.isAgg356, fun w => ⟨_, Tryz.typeInfo356 w, rfl, rfl⟩, ⟨Tryz.t356, by kernel_rfl, rfl, rfl, rfl⟩⟩
theorem te357 : TE.ok Tryz.prog 357 ⟨Tryz.t357.desc, Tryz.t357.size, Tryz.t357.bytes, Tryz.t357.zero.getD undef⟩ := ⟨Tryz.underlying357, Tryz.runUnderlying357, Tryz.sizeOf357, Tryz.zeroValue357, Tryz.isAgg357, fun w => ⟨_, Tryz.typeInfo357 w, rfl, rfl⟩, ⟨Tryz.t357, by kernel_rfl, rfl, rfl, rfl⟩⟩
theorem te358 : TE.ok Tryz.prog 358 ⟨Tryz.t358.desc, Tryz.t358.size, Tryz.t358.bytes, Tryz.t358.zero.getD undef⟩ := ⟨Tryz.underlying358, Tryz.runUnderlying358, Tryz.sizeOf358, Tryz.zeroValue358, Tryz.isAgg358, fun w => ⟨_, Tryz.typeInfo358 w, rfl, rfl⟩, ⟨Tryz.t358, by kernel_rfl, rfl, rfl, rfl⟩⟩
theorem te359 : TE.ok Tryz.prog 359 ⟨Tryz.t359.desc, Tryz.t359.size, Tryz.t359.bytes, Tryz.t359.zero.getD undef⟩ := ⟨Tryz.underlying359, Tryz.runUnderlying359, Tryz.sizeOf359, Tryz.zeroValue359, Tryz.isAgg359, fun w => ⟨_, Tryz.typeInfo359 w, rfl, rfl⟩, ⟨Tryz.t359, by kernel_rfl, rfl, rfl, rfl⟩⟩
theorem te360 : TE.ok Tryz.prog 360 ⟨Tryz.t360.desc, Tryz.t360.size, Tryz.t360.bytes, Tryz.t360.zero.getD undef⟩ := ⟨Tryz.underlying360, Tryz.runUnderlying360, Tryz.sizeOf360, Tryz.zeroValue360, Tryz.isAgg360, fun w => ⟨_, Tryz.typeInfo360 w, rfl, rfl⟩, ⟨Tryz.t360, by kernel_rfl, rfl, rfl, rfl⟩⟩
theorem te361 : TE.ok Tryz.prog 361 ⟨Tryz.t361.desc, Tryz.t361.size, Tryz.t361.bytes, Tryz.t361.zero.getD undef⟩ := ⟨Tryz.underlying361, Tryz.runUnderlying361, Tryz.sizeOf361, Tryz.zeroValue361, Tryz.isAgg361, fun w => ⟨_, Tryz.typeInfo361 w, rfl, rfl⟩, ⟨Tryz.t361, by kernel_rfl, rfl, rfl, rfl⟩⟩
theorem te362 : TE.ok Tryz.prog 362 ⟨Tryz.t362.desc, Tryz.t362.size, Tryz.t362.bytes, Tryz.t362.zero.getD undef⟩ := ⟨Tryz.underlying362, Tryz.runUnderlying362, Tryz.sizeOf362, Tryz.zeroValue362, Tryz.isAgg362, fun w => ⟨_, Tryz.typeInfo362 w, rfl, rfl⟩, ⟨Tryz.t362, by kernel_rfl, rfl, rfl, rfl⟩⟩
theorem te363 : TE.ok Tryz.prog 363 ⟨Tryz.t363.desc, Tryz.t363.size, Tryz.t363.bytes, Tryz.t363.zero.getD undef⟩ := ⟨Tryz.underlying363, Tryz.runUnderlying363, Tryz.sizeOf363, Tryz.zeroValue363, Tryz.isAgg363, fun w => ⟨_, Tryz.typeInfo363 w, rfl, rfl⟩, ⟨Tryz.t363, by kernel_rfl, rfl, rfl, rfl⟩⟩
theorem te364 : TE.ok Tryz.prog 364 ⟨Tryz.t364.desc, Tryz.t364.size, Tryz.t364.bytes, Tryz.t364.zero.getD undef⟩ := ⟨Tryz.underlying364, Tryz.runUnderlying364, Tryz.sizeOf364, Tryz.zeroValue364, Tryz.isAgg364, fun w => ⟨_, Tryz.typeInfo364 w, rfl, rfl⟩, ⟨Tryz.t364, by kernel_rfl, rfl, rfl, rfl⟩⟩
theorem te365 : TE.ok Tryz.prog 365 ⟨Tryz.t365.desc, Tryz.t365.size, Tryz.t365.bytes, Tryz.t365.zero.getD undef⟩ := ⟨Tryz.underlying365, Tryz.runUnderlying365, Tryz.sizeOf365, Tryz.zeroValue365, Tryz.isAgg365, fun w => ⟨_, Tryz.typeInfo365 w, rfl, rfl⟩, ⟨Tryz.t365, by kernel_rfl, rfl, rfl, rfl⟩⟩
theorem te366 : TE.ok Tryz.prog 366 ⟨Tryz.t366.desc, Tryz.t366.size, Tryz.t366.bytes, Tryz.t366.zero.getD undef⟩ := ⟨Tryz.underlying366, Tryz.runUnderlying366, Tryz.sizeOf366, Tryz.zeroValue366, Tryz.isAgg366, fun w => ⟨_, Tryz.typeInfo366 w, rfl, rfl⟩, ⟨Tryz.t366, by kernel_rfl, rfl, rfl, rfl⟩⟩
theorem te367 : TE.ok Tryz.prog 367 ⟨Tryz.t367.desc, Tryz.t367.size, Tryz.t367.bytes, Tryz.t367.zero.getD undef⟩ := ⟨Tryz.underlying367, Tryz.runUnderlying367, Tryz.sizeOf367, Tryz.zeroValue367, Tryz.isAgg367, fun w => ⟨_, Tryz.typeInfo367 w, rfl, rfl⟩, ⟨Tryz.t367, by kernel_rfl, rfl, rfl, rfl⟩⟩
theorem te368 : TE.ok Tryz.prog 368 ⟨Tryz.t368.desc, Tryz.t368.size, Tryz.t368.bytes, Tryz.t368.zero.getD undef⟩ := ⟨Tryz.underlying368, Tryz.runUnderlying368, Tryz.sizeOf368, Tryz.zeroValue368, Tryz.isAgg368, fun w => ⟨_, Tryz.typeInfo368 w, rfl, rfl⟩, ⟨Tryz.t368, by kernel_rfl, rfl, rfl, rfl⟩⟩
theorem te369 : TE.ok Tryz.prog 369 ⟨Tryz.t369.desc, Tryz.t369.size, Tryz.t369.bytes, Tryz.t369.zero.getD undef⟩ := ⟨Tryz.underlying369, Tryz.runUnderlying369, Tryz.sizeOf369, Tryz.zeroValue369, Tryz.isAgg369, fun w => ⟨_, Tryz.typeInfo369 w, rfl, rfl⟩, ⟨Tryz.t369, by kernel_rfl, rfl, rfl, rfl⟩⟩
theorem te370 : TE.ok Tryz.prog 370 ⟨Tryz.t370.desc, Tryz.t370.size, Tryz.t370.bytes, Tryz.t370.zero.getD undef⟩ := ⟨Tryz.underlying370, Tryz.runUnderlying370, Tryz.sizeOf370, Tryz.zeroValue370, Tryz.isAgg370, fun w => ⟨_, Tryz.typeInfo370 w, rfl, rfl⟩, ⟨Tryz.t370, by kernel_rfl, rfl, rfl, rfl⟩⟩
theorem te371 : TE.ok Tryz.prog 371 ⟨Tryz.t371.desc, Tryz.t371.size, Tryz.t371.bytes, Tryz.t371.zero.getD undef⟩ := ⟨Tryz.underlying371, Tryz.runUnderlying371, Tryz.sizeOf371, Tryz.zeroValue371, Tryz.isAgg371, fun w => ⟨_, Tryz.typeInfo371 w, rfl, rfl⟩, ⟨Tryz.t371, by kernel_rfl, rfl, rfl, rfl⟩⟩
theorem te372 : TE.ok Tryz.prog 372 ⟨Tryz.t372.desc, Tryz.t372.size, Tryz.t372.bytes, Tryz.t372.zero.getD undef⟩ := ⟨Tryz.underlying372, Tryz.runUnderlying372, Tryz.sizeOf372, Tryz.zeroValue372, Tryz.isAgg372, fun w => ⟨_, Tryz.typeInfo372 w, rfl, rfl⟩, ⟨Tryz.t372, by kernel_rfl, rfl, rfl, rfl⟩⟩
theorem te373 : TE.ok Tryz.prog 373 ⟨Tryz.t373.desc, Tryz.t373.size, Tryz.t373.bytes, Tryz.t373.zero.getD undef⟩ := ⟨Tryz.underlying373, Tryz.runUnderlying373, Tryz.sizeOf373, Tryz.zeroValue373, Tryz.isAgg373, fun w => ⟨_, Tryz.typeInfo373 w, rfl, rfl⟩, ⟨Tryz.t373, by kernel_rfl, rfl, rfl, rfl⟩⟩
theorem te374 : TE.ok Tryz.prog 374 ⟨Tryz.t374.desc, Tryz.t374.size, Tryz.t374.bytes, Tryz.t374.zero.getD undef⟩ := ⟨Tryz.underlying374, Tryz.runUnderlying374, Tryz.sizeOf374, Tryz.zeroValue374, Tryz.isAgg374, fun w => ⟨_, Tryz.typeInfo374 w, rfl, rfl⟩, ⟨Tryz.t374, by kernel_rfl, rfl, rfl, rfl⟩⟩
theorem te375 : TE.ok Tryz.prog 375 ⟨Tryz.t375.desc, Tryz.t375.size, Tryz.t375.bytes, Tryz.t375.zero.getD undef⟩ := ⟨Tryz.underlying375, Tryz.runUnderlying375, Tryz.sizeOf375, Tryz.zeroValue375, Tryz.isAgg375, fun w => ⟨_, Tryz.typeInfo375 w, rfl, rfl⟩, ⟨Tryz.t375, by kernel_rfl, rfl, rfl, rfl⟩⟩
theorem te376 : TE.ok Tryz.prog 376 ⟨Tryz.t376.desc, Tryz.t376.size, Tryz.t376.bytes, Tryz.t376.zero.getD undef⟩ := ⟨Tryz.underlying376, Tryz.runUnderlying376, Tryz.sizeOf376, Tryz.zeroValue376, Tryz.isAgg376, fun w => ⟨_, Tryz.typeInfo376 w, rfl, rfl⟩, ⟨Tryz.t376, by kernel_rfl, rfl, rfl, rfl⟩⟩
theorem te377 : TE.ok Tryz.prog 377 ⟨Tryz.t377.desc, Tryz.t377.size, Tryz.t377.bytes, Tryz.t377.zero.getD undef⟩ := ⟨Tryz.underlying377, Tryz.runUnderlying377, Tryz.sizeOf377, Tryz.zeroValue377, Tryz.isAgg377, fun w => ⟨_, Tryz.typeInfo377 w, rfl, rfl⟩, ⟨Tryz.t377, by kernel_rfl, rfl, rfl, rfl⟩⟩
theorem te378 : TE.ok Tryz.prog 378 ⟨Tryz.t378.desc, Tryz.t378.size, Tryz.t378.bytes, Tryz.t378.zero.getD undef⟩ := ⟨Tryz.underlying378, Tryz.runUnderlying378, Tryz.sizeOf378, Tryz.zeroValue378, Tryz.isAgg378, fun w => ⟨_, Tryz.typeInfo378 w, rfl, rfl⟩, ⟨Tryz.t378, by kernel_rfl, rfl, rfl, rfl⟩⟩
theorem te379 : TE.ok Tryz.prog 379 ⟨Tryz.t379.desc, Tryz.t379.size, Tryz.t379.bytes, Tryz.t379.zero.getD undef⟩ := ⟨Tryz.underlying379, Tryz.runUnderlying379, Tryz.sizeOf379, Tryz.zeroValue379, Tryz.isAgg379, fun w => ⟨_, Tryz.typeInfo379 w, rfl, rfl⟩, ⟨Tryz.t379, by kernel_rfl, rfl, rfl, rfl⟩⟩
theorem te380 : TE.ok Tryz.prog 380 ⟨Tryz.t380.desc, Tryz.t380.size, Tryz.t380.bytes, Tryz.t380.zero.getD undef⟩ := ⟨Tryz.underlying380, Tryz.runUnderlying380, Tryz.sizeOf380, Tryz.zeroValue380, Tryz.isAgg380, fun w => ⟨_, Tryz.typeInfo380 w, rfl, rfl⟩, ⟨Tryz.t380, by kernel_rfl, rfl, rfl, rfl⟩⟩
theorem te381 : TE.ok Tryz.prog 381 ⟨Tryz.t381.desc, Tryz.t381.size, Tryz.t381.bytes, Tryz.t381.zero.getD undef⟩ := ⟨Tryz.underlying381, Tryz.runUnderlying381, Tryz.sizeOf381, Tryz.zeroValue381, Tryz.isAgg381, fun w => ⟨_, Tryz.typeInfo381 w, rfl, rfl⟩, ⟨Tryz.t381, by kernel_rfl, rfl, rfl, rfl⟩⟩
theorem te382 : TE.ok Tryz.prog 382 ⟨Tryz.t382.desc, Tryz.t382.size, Tryz.t382.bytes, Tryz.t382.zero.getD undef⟩ := ⟨Tryz.underlying382, Tryz.runUnderlying382, Tryz.sizeOf382, Tryz.zeroValue382, Tryz.isAgg382, fun w => ⟨_, Tryz.typeInfo382 w, rfl, rfl⟩, ⟨Tryz.t382, by kernel_rfl, rfl, rfl, rfl⟩⟩
theorem te383 : TE.ok Tryz.prog 383 ⟨Tryz.t383.desc, Tryz.t383.size, Tryz.t383.bytes, Tryz.t383.zero.getD undef⟩ := ⟨Tryz.underlying383, Tryz.runUnderlying383, Tryz.sizeOf383, Tryz.zeroValue383, Tryz.isAgg383, fun w => ⟨_, Tryz.typeInfo383 w, rfl, rfl⟩, ⟨Tryz.t383, by kernel_rfl, rfl, rfl, rfl⟩⟩
theorem te384 : TE.ok Tryz.prog 384 ⟨Tryz.t384.desc, Tryz.t384.size, Tryz.t384.bytes, Tryz.t384.zero.getD undef⟩ := ⟨Tryz.underlying384, Tryz.runUnderlying384, Tryz.sizeOf384, Tryz.zeroValue384, Tryz.isAgg384, fun w => ⟨_, Tryz.typeInfo384 w, rfl, rfl⟩, ⟨Tryz.t384, by kernel_rfl, rfl, rfl, rfl⟩⟩
theorem te385 : TE.ok Tryz.prog 385 ⟨Tryz.t385.desc, Tryz.t385.size, Tryz.t385.bytes, Tryz.t385.zero.getD undef⟩ := ⟨Tryz.underlying385, Tryz.runUnderlying385, Tryz.sizeOf385, Tryz.zeroValue385, Tryz.isAgg385, fun w => ⟨_, Tryz.typeInfo385 w, rfl, rfl⟩, ⟨Tryz.t385, by kernel_rfl, rfl, rfl, rfl⟩⟩
theorem te386 : TE.ok Tryz.prog 386 ⟨Tryz.t385.desc, Tryz.t386.size, Tryz.t386.bytes, Tryz.t386.zero.getD undef⟩ := ⟨Tryz.underlying386, Tryz.runUnderlying386, Tryz.sizeOf386, Tryz.zeroValue386, Tryz.isAgg386, fun w => ⟨_, Tryz.typeInfo386 w, rfl, rfl⟩, ⟨Tryz.t386, by kernel_rfl, rfl, rfl, rfl⟩⟩
theorem te387 : TE.ok Tryz.prog 387 ⟨Tryz.t387.desc, Tryz.t387.size, Tryz.t387.bytes, Tryz.t387.zero.getD undef⟩ := ⟨Tryz.underlying387, Tryz.runUnderlying387, Tryz.sizeOf387, Tryz.zeroValue387, Tryz.isAgg387, fun w => ⟨_, Tryz.typeInfo387 w, rfl, rfl⟩, ⟨Tryz.t387, by kernel_rfl, rfl, rfl, rfl⟩⟩
theorem te388 : TE.ok Tryz.prog 388 ⟨Tryz.t388.desc, Tryz.t388.size, Tryz.t388.bytes, Tryz.t388.zero.getD undef⟩ := ⟨Tryz.underlying388, Tryz.runUnderlying388, Tryz.sizeOf388, Tryz.zeroValue388, Tryz.isAgg388, fun w => ⟨_, Tryz.typeInfo388 w, rfl, rfl⟩, ⟨Tryz.t388, by kernel_rfl, rfl, rfl, rfl⟩⟩
theorem te389 : TE.ok Tryz.prog 389 ⟨Tryz.t388.desc, Tryz.t389.size, Tryz.t389.bytes, Tryz.t389.zero.getD undef⟩ := ⟨Tryz.underlying389, Tryz.runUnderlying389, Tryz.sizeOf389, Tryz.zeroValue389, Tryz.isAgg389, fun w => ⟨_, Tryz.typeInfo389 w, rfl, rfl⟩, ⟨Tryz.t389, by kernel_rfl, rfl, rfl, rfl⟩⟩
theorem te390 : TE.ok Tryz.prog 390 ⟨Tryz.t390.desc, Tryz.t390.size, Tryz.t390.bytes, Tryz.t390.zero.getD undef⟩ := ⟨Tryz.underlying390, Tryz.runUnderlying390, Tryz.sizeOf390, Tryz.zeroValue390, Tryz.isAgg390, fun w => ⟨_, Tryz.typeInfo390 w, rfl, rfl⟩, ⟨Tryz.t390, by kernel_rfl, rfl, rfl, rfl⟩⟩
theorem te391 : TE.ok Tryz.prog 391 ⟨Tryz.t5.desc, Tryz.t391.size, Tryz.t391.bytes, Tryz.t391.zero.getD undef⟩ := ⟨Tryz.underlying391, Tryz.runUnderlying391, Tryz.sizeOf391, Tryz.zeroValue391, Tryz.isAgg391, fun w => ⟨_, Tryz.typeInfo391 w, rfl, rfl⟩, ⟨Tryz.t391, by kernel_rfl, rfl, rfl, rfl⟩⟩
theorem te392 : TE.ok Tryz.prog 392 ⟨Tryz.t5.desc, Tryz.t392.size, Tryz.t392.bytes, Tryz.t392.zero.getD undef⟩ := ⟨Tryz.underlying392, Tryz.runUnderlying392, Tryz.sizeOf392, Tryz.zeroValue392, Tryz.isAgg392, fun w => ⟨_, Tryz.typeInfo392 w, rfl, rfl⟩, ⟨Tryz.t392, by kernel_rfl, rfl, rfl, rfl⟩⟩
theorem te393 : TE.ok Tryz.prog 393 ⟨Tryz.t393.desc, Tryz.t393.size, Tryz.t393.bytes, Tryz.t393.zero.getD undef⟩ := ⟨Tryz.underlying393, Tryz.runUnderlying393, Tryz.sizeOf393, Tryz.zeroValue393, Tryz.isAgg393, fun w => ⟨_, Tryz.typeInfo393 w, rfl, rfl⟩, ⟨Tryz.t393, by kernel_rfl, rfl, rfl, rfl⟩⟩
theorem te394 : TE.ok Tryz.prog 394 ⟨Tryz.t394.desc, Tryz.t394.size, Tryz.t394.bytes, Tryz.t394.zero.getD undef⟩ := ⟨Tryz.underlying394, Tryz.runUnderlying394, Tryz.sizeOf394, Tryz.zeroValue394, Tryz.isAgg394, fun w => ⟨_, Tryz.typeInfo394 w, rfl, rfl⟩, ⟨Tryz.t394, by kernel_rfl, rfl, rfl, rfl⟩⟩
theorem te395 : TE.ok Tryz.prog 395 ⟨Tryz.t21.desc, Tryz.t395.size, Tryz.t395.bytes, Tryz.t395.zero.getD undef⟩ := ⟨Tryz.underlying395, Tryz.runUnderlying395, Tryz.sizeOf395, Tryz.zeroValue395, Tryz.isAgg395, fun w => ⟨_, Tryz.typeInfo395 w, rfl, rfl⟩, ⟨Tryz.t395, by kernel_rfl, rfl, rfl, rfl⟩⟩
theorem te396 : TE.ok Tryz.prog 396 ⟨Tryz.t21.desc, Tryz.t396.size, Tryz.t396.bytes, Tryz.t396.zero.getD undef⟩ := ⟨Tryz.underlying396, Tryz.runUnderlying396, Tryz.sizeOf396, Tryz.zeroValue396, Tryz.isAgg396, fun w => ⟨_, Tryz.typeInfo396 w, rfl, rfl⟩, ⟨Tryz.t396, by kernel_rfl, rfl, rfl, rfl⟩⟩
theorem te397 : TE.ok Tryz.prog 397 ⟨Tryz.t397.desc, Tryz.t397.size, Tryz.t397.bytes, Tryz.t397.zero.getD undef⟩ := ⟨Tryz.underlying397, Tryz.runUnderlying397, Tryz.sizeOf397, Tryz.zeroValue397, Tryz.isAgg397, fun w => ⟨_, Tryz.typeInfo397 w, rfl, rfl⟩, ⟨Tryz.t397, by kernel_rfl, rfl, rfl, rfl⟩⟩
theorem te398 : TE.ok Tryz.prog 398 ⟨Tryz.t397.desc, Tryz.t398.size, Tryz.t398.bytes, Tryz.t398.zero.getD undef⟩ := ⟨Tryz.underlying398, Tryz.runUnderlying398, Tryz.sizeOf398, Tryz.zeroValue398, Tryz.isAgg398, fun w => ⟨_, Tryz.typeInfo398 w, rfl, rfl⟩, ⟨Tryz.t398, by kernel_rfl, rfl, rfl, rfl⟩⟩
theorem te399 : TE.ok Tryz.prog 399 ⟨Tryz.t399.desc, Tryz.t399.size, Tryz.t399.bytes, Tryz.t399.zero.getD undef⟩ := ⟨Tryz.underlying399, Tryz.runUnderlying399, Tryz.sizeOf399, Tryz.zeroValue399, Tryz.isAgg399, fun w => ⟨_, Tryz.typeInfo399 w, rfl, rfl⟩, ⟨Tryz.t399, by kernel_rfl, rfl, rfl, rfl⟩⟩
theorem tab_ok : Tab.ok Tryz.prog tab := ⟨te0, te1, te2, te3, te4, te5, te6, te7, te8, te9, te10, te11, te12, te13, te14, te15, te16, te17, te18, te19, te20, te21, te22, te23, te24, te25, te26, te27, te28, te29, te30, te31, te32, te33, te34, te35, te36, te37, te38, te39, te40, te41, te42, te43, te44, te45, te46, te47, te48, te49, te50, te51, te52, te53, te54, te55, te56, te57, te58, te59, te60, te61, te62, te63, te64, te65, te66, te67, te68, te69, te70, te71, te72, te73, te74, te75, te76, te77, te78, te79, te80, te81, te82, te83, te84, te85, te86, te87, te88, te89, te90, te91, te92, te93, te94, te95, te96, te97, te98, te99, te100, te101, te102, te103, te104, te105, te106, te107, te108, te109, te110, te111, te112, te113, te114, te115, te116, te117, te118, te119, te120, te121, te122, te123, te124, te125, te126, te127, te128, te129, te130, te131, te132, te133, te134, te135, te136, te137, te138, te139, te140, te141, te142, te143, te144, te145, te146, te147, te148, te149, te150, te151, te152, te153, te154, te155, te156, te157, te158, te159, te160, te161, te162, te163, te164, te165, te166, te167, te168, te169, te170, te171, te172, te173, te174, te175, te176, te177, te178, te179, te180, te181, te182, te183, te184, te185, te186, te187, te188, te189, te190, te191, te192, te193, te194, te195, te196, te197, te198, te199, te200, te201, te202, te203, te204, te205, te206, te207, te208, te209, te210, te211, te212, te213, te214, te215, te216, te217, te218, te219, te220, te221, te222, te223, te224, te225, te226, te227, te228, te229, te230, te231, te232, te233, te234, te235, te236, te237, te238, te239, te240, te241, te242, te243, te244, te245, te246, te247, te248, te249, te250, te251, te252, te253, te254, te255, te256, te257, te258, te259, te260, te261, te262, te263, te264, te265, te266, te267, te268, te269, te270, te271, te272, te273, te274, te275, te276, te277, te278, te279, te280, te281, te282, te283, te284, te285, te286, te287, te288, te289, te290, te291, te292, te293, te294, te295, te296, te297, te298, te299, te300, te301, te302, te303, te304, te305, te306, te307, te308, te309, te310, te311, te312, te313, te314, te315, te316, te317, te318, te319, te320, te321, te322, te323, te324, te325, te326, te327, te328, te329, te330, te331, te332, te333, te334, te335, te336, te337, te338, te339, te340, te341, te342, te343, te344, te345, te346, te347, te348, te349, te350, te351, te352, te353, te354, te355, te356, te357, te358, te359, te360, te361, te362, te363, te364, te365, te366, te367, te368, te369, te370, te371, te372, te373, te374, te375, te376, te377, te378, te379, te380, te381, te382, te383, te384, te385, te386, te387, te388, te389, te390, te391, te392, te393, te394, te395, te396, te397, te398, te399, trivial⟩
theorem fns_ok : FnsOk Tryz.prog fns := ⟨Tryz.call2, Tryz.call3, Tryz.call4, Tryz.call5, Tryz.call6, Tryz.call7, Tryz.call8, Tryz.call9, Tryz.call10, Tryz.call11, Tryz.call12, Tryz.call13, Tryz.call14, Tryz.call15, Tryz.call16, Tryz.call17, Tryz.call18, Tryz.call19, Tryz.call20, Tryz.call21, Tryz.call22, Tryz.call23, Tryz.call24, Tryz.call25, Tryz.call26, Tryz.call27, Tryz.call28, Tryz.call29, Tryz.call30, Tryz.call31, Tryz.call32, Tryz.call33, Tryz.call34, Tryz.call35, Tryz.call36, Tryz.call37, Tryz.call38, Tryz.call39, Tryz.call40, Tryz.call41, Tryz.call42, Tryz.call43, Tryz.call44, Tryz.call45, Tryz.call46, Tryz.call47, Tryz.call48, Tryz.call49, Tryz.call50, Tryz.call51, Tryz.call52, Tryz.call53, Tryz.call54, Tryz.call55, Tryz.call56, Tryz.call57, Tryz.call58, Tryz.call59, Tryz.call60, Tryz.call61, Tryz.call62, Tryz.call63, Tryz.call64, Tryz.call65, Tryz.call66, Tryz.call67, Tryz.call68, Tryz.call69, Tryz.call70, Tryz.call71, Tryz.call72, Tryz.call73, Tryz.call74, Tryz.call75, Tryz.call76, Tryz.call77, Tryz.call78, Tryz.call79, Tryz.call80, Tryz.call81, Tryz.call82, Tryz.call83, Tryz.call84, Tryz.call85, Tryz.call86, Tryz.call87, Tryz.call88, Tryz.call89, Tryz.call90, Tryz.call91, Tryz.call92, Tryz.call93, Tryz.call94, Tryz.call95, Tryz.call96, Tryz.call97, Tryz.call98, Tryz.call99, Tryz.call100, Tryz.call101, Tryz.call102, Tryz.call103, Tryz.call104, Tryz.call105, Tryz.call106, Tryz.call107, Tryz.call108, Tryz.call109, Tryz.call110, Tryz.call111, Tryz.call112, Tryz.call113, Tryz.call114, Tryz.call115, Tryz.call116, Tryz.call117, Tryz.call118, Tryz.call119, Tryz.call120, Tryz.call121, Tryz.call122, Tryz.call123, Tryz.call124, Tryz.call125, Tryz.call126, Tryz.call127, Tryz.call128, Tryz.call129, Tryz.call130, Tryz.call131, Tryz.call132, Tryz.call133, Tryz.call134, Tryz.call135, Tryz.call136, Tryz.call137, Tryz.call138, Tryz.call139, Tryz.call140, Tryz.call141, Tryz.call142, Tryz.call143, Tryz.call144, Tryz.call145, Tryz.call146, Tryz.call147, Tryz.call148, Tryz.call149, Tryz.call150, Tryz.call151, Tryz.call152, Tryz.call153, Tryz.call154, Tryz.call155, Tryz.call156, Tryz.call157, Tryz.call158, Tryz.call159, Tryz.call160, Tryz.call161, Tryz.call162, Tryz.call163, Tryz.call164, Tryz.call165, Tryz.call166, Tryz.call167, Tryz.call168, Tryz.call169, Tryz.call170, Tryz.call171, Tryz.call172, Tryz.call173, Tryz.call174, Tryz.call175, Tryz.call176, Tryz.call177, Tryz.call178, Tryz.call179, Tryz.call180, Tryz.call181, Tryz.call182, Tryz.call183, Tryz.call184, Tryz.call185, Tryz.call186, Tryz.call187, Tryz.call188, Tryz.call189, Tryz.call190, Tryz.call191, Tryz.call192, Tryz.call193, Tryz.call194, Tryz.call195, Tryz.call196, Tryz.call197, Tryz.call198, Tryz.call199, Tryz.call200, Tryz.call201, Tryz.call202, Tryz.call203, Tryz.call204, Tryz.call205, Tryz.call206, Tryz.call207, Tryz.call208, Tryz.call209, Tryz.call210, Tryz.call211, Tryz.call212, Tryz.call213, Tryz.call214, Tryz.call215, Tryz.call216, Tryz.call217, Tryz.call218, Tryz.call219, Tryz.call220, Tryz.call221, Tryz.call222, Tryz.call223, Tryz.call224, Tryz.call225, Tryz.call226, Tryz.call227, Tryz.call228, Tryz.call229, Tryz.call230, Tryz.call231, Tryz.call232, Tryz.call233, Tryz.call234, Tryz.call235, Tryz.call236, Tryz.call237, Tryz.call238, Tryz.call239, Tryz.call240, Tryz.call241, Tryz.call242, Tryz.call243, Tryz.call244, Tryz.call245, Tryz.call246, Tryz.call247, Tryz.call248, Tryz.call249, Tryz.call250, Tryz.call251, Tryz.call252, Tryz.call253, Tryz.call254, Tryz.call255, Tryz.call256, Tryz.call257, Tryz.call258, Tryz.call259, Tryz.call260, Tryz.call261, Tryz.call262, Tryz.call263, Tryz.call264, Tryz.call265, Tryz.call266, Tryz.call267, Tryz.call268, Tryz.call269, Tryz.call270, Tryz.call271, Tryz.call272, Tryz.call273, Tryz.call274, Tryz.call275, Tryz.call276, Tryz.call277, Tryz.call278, Tryz.call279, Tryz.call280, Tryz.call281, Tryz.call282, Tryz.call283, Tryz.call284, Tryz.call285, Tryz.call286, Tryz.call287, Tryz.call288, Tryz.call289, Tryz.call290, Tryz.call291, Tryz.call292, Tryz.call293, Tryz.call294, Tryz.call295, Tryz.call296, Tryz.call297, Tryz.call298, Tryz.call299, Tryz.call300, Tryz.call301, Tryz.call302, Tryz.call303, Tryz.call304, trivial⟩
theorem mixed_ok : Tryz.prog.follows .mixedOrders = true := by kernel_rfl
noncomputable def env (cs : List (Nat × CallHint)) (opq : List Nat) (ls cuts : List (Nat × LoopHint)) : Env := { P := Tryz.prog, T := tab, fns := fns, calls := cs, opq := opq, loops := ls, cuts := cuts }
theorem env_ok (cs : List (Nat × CallHint)) (opq : List Nat) (ls cuts : List (Nat × LoopHint)) : (env cs opq ls cuts).ok := ⟨tab_ok, fns_ok.call, mixed_ok⟩
end Go.Proofs.YtkiioneimheciaaGreat
